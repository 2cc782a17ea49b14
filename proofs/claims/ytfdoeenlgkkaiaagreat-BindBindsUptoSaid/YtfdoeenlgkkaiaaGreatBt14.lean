/- A part. -/
import Derived.Test.YtfdoeenlgkkaiaaGreatBt13
noncomputable section
namespace Go.Abs
open List
open Go.Proofs
open Classical
set_option maxRecDepth 100000
def nO:CT:=(.seq (.seq iS (.cond (aC 230) (.seq Hq Ho) .skip)) T24)
def arN:CT:=(.seq (.seq fC (.cond (aC 170) (.seq nH nG) .skip)) (.seq (.seq eI (.cond (aC 186) (.seq kI (.seq kH (.seq nF (.block 6 (.loop oZ))))) .skip)) nO))
def arO:CT:=(.seq (.seq fD (.cond (aC 138) (.seq wR (.seq wQ (.seq wP (.block 4 (.loop xn))))) .skip)) (.seq (.seq fC (.cond (aC 170) (.seq nH nG) .skip)) (.seq (.seq eI (.cond (aC 186) (.seq kI (.seq kH (.seq nF (.block 6 (.loop oZ))))) .skip)) nO)))
def qA:CT:=(.seq (.seq fR (.cond (aC 101) (.seq Hy (.seq sQ (.seq BG (.block 2 (.loop zJ))))) .skip)) (.seq (.seq fD (.cond (aC 138) (.seq wR (.seq wQ (.seq wP (.block 4 (.loop xn))))) .skip)) (.seq (.seq fC (.cond (aC 170) (.seq nH nG) .skip)) (.seq (.seq eI (.cond (aC 186) (.seq kI (.seq kH (.seq nF (.block 6 (.loop oZ))))) .skip)) nO))))
def uG:CT:=(.seq (.seq lh (.cond (aC 25) (.seq tW tV) .skip)) (.seq (.seq gH (.cond (aC 37) (.seq wU wT) .skip)) (.seq (.seq eJ (.cond (aC 48) (.seq qm (.seq ql (.seq wS (.block 0 (.loop xu))))) .skip)) qA)))
theorem b24:B24=(.seq EL (.seq EK (.seq (.seq EJ (.cond (aC 17) (.seq Lb .ret) .skip)) (.seq V8 (.seq V6 uG))))):=rfl
theorem aaH (x:aE)(_hs:x.sm)(hk:x.kind=9)(F:Fr)(K:Hp)(Q:QA)(E:mA x F K)(fin:fF x Q):VC pG uG F K 2 [] Q:=by
 obtain⟨f1,f3,f4,f5,k0,k1⟩:=E;have x1:=x.c1;have x2:=x.c2;have x3:=x.c3;have x4:=x.c4;have x5:=x.c5;have x6:=x.c6;have x7:=x.c7;have xc:=x.cc;have xq:=x.cq;have xl:=x.aA;unfold fF at fin;rw[hk]at f3 k1 fin;simp only[rJ]at k1;generalize hxs:x.cells=xs at *;simp[uG,qA,nO,lh,gH,eJ,fR,fD,fC,eI,iS,f3];exact fin _ K _ true ⟨by simp[f1],by simp[f3],by simp[f4],by simp[f5]⟩ k0 k1 ⟨by simp,by simp,by simp[aE.cut,hk,aE.cells,aE.z,jy,gI,Ex.cells,aY.cells,iH]⟩ (by simp[aE.ok,hk])
theorem QI (x:aE)(_hs:x.sm)(hk:x.kind=10)(F:Fr)(K:Hp)(Q:QA)(E:mA x F K)(fin:fF x Q):VC pG uG F K 2 [] Q:=by
 obtain⟨f1,f3,f4,f5,k0,k1⟩:=E;have x1:=x.c1;have x2:=x.c2;have x3:=x.c3;have x4:=x.c4;have x5:=x.c5;have x6:=x.c6;have x7:=x.c7;have xc:=x.cc;have xq:=x.cq;have xl:=x.aA;unfold fF at fin;rw[hk]at f3 k1 fin;simp only[rJ]at k1;generalize hxs:x.cells=xs at *;simp[uG,qA,nO,lh,gH,eJ,fR,fD,fC,eI,iS,f3];exact fin _ K _ true ⟨by simp[f1],by simp[f3],by simp[f4],by simp[f5]⟩ k0 k1 ⟨by simp,by simp,by simp[aE.cut,hk,aE.cells,aE.z,jy,gI,Ex.cells,aY.cells,iH]⟩ (by simp[aE.ok,hk])
theorem QH (x:aE)(_hs:x.sm)(hk:x.kind=11)(F:Fr)(K:Hp)(Q:QA)(E:mA x F K)(fin:fF x Q):VC pG uG F K 2 [] Q:=by
 obtain⟨f1,f3,f4,f5,k0,k1⟩:=E;have x1:=x.c1;have x2:=x.c2;have x3:=x.c3;have x4:=x.c4;have x5:=x.c5;have x6:=x.c6;have x7:=x.c7;have xc:=x.cc;have xq:=x.cq;have xl:=x.aA;unfold fF at fin;rw[hk]at f3 k1 fin;simp only[rJ]at k1;generalize hxs:x.cells=xs at *;simp[uG,qA,nO,lh,gH,eJ,fR,fD,fC,eI,iS,f3];exact fin _ K _ true ⟨by simp[f1],by simp[f3],by simp[f4],by simp[f5]⟩ k0 k1 ⟨by simp,by simp,by simp[aE.cut,hk,aE.cells,aE.z,jy,gI,Ex.cells,aY.cells,iH]⟩ (by simp[aE.ok,hk])
theorem aaO (x:aE)(_hs:x.sm)(hk:x.kind=2)(F:Fr)(K:Hp)(Q:QA)(E:mA x F K)(fin:fF x Q):VC pG uG F K 2 [] Q:=by
 obtain⟨f1,f3,f4,f5,k0,k1⟩:=E;have x1:=x.c1;have x2:=x.c2;have x3:=x.c3;have x4:=x.c4;have x5:=x.c5;have x6:=x.c6;have x7:=x.c7;have xc:=x.cc;have xq:=x.cq;have xl:=x.aA;unfold fF at fin;rw[hk]at f3 k1 fin;simp only[rJ]at k1;generalize hxs:x.cells=xs at *;simp[uG,qA,nO,lh,gH,eJ,fR,fD,fC,eI,iS,tW,tV,f1,f3,f4,k0,k1,xl,x1];refine ao.pure (fw x.table) ?_;simp[f3];refine fin _ _ _ (decide (aD x.table)) ⟨by simp[f1],by simp[f3],by simp[f4],by simp⟩ (by simp[k0]) (by simp;rfl) ⟨by simp,by simp,by simp[aE.cut,hk,aE.cells,aE.z,jy,gI,Ex.cells,aY.cells,iH]⟩ (by simp[aE.ok,hk])
theorem aaM (x:aE)(_hs:x.sm)(hk:x.kind=4)(F:Fr)(K:Hp)(Q:QA)(E:mA x F K)(fin:fF x Q):VC pG uG F K 2 [] Q:=by
 obtain⟨f1,f3,f4,f5,k0,k1⟩:=E;have x1:=x.c1;have x2:=x.c2;have x3:=x.c3;have x4:=x.c4;have x5:=x.c5;have x6:=x.c6;have x7:=x.c7;have xc:=x.cc;have xq:=x.cq;have xl:=x.aA;unfold fF at fin;rw[hk]at f3 k1 fin;simp only[rJ]at k1;generalize hxs:x.cells=xs at *;simp[uG,qA,nO,lh,gH,eJ,fR,fD,fC,eI,iS,wU,wT,f1,f3,f4,f5,k0,k1,xl,x2];refine ao.pure (fw x.name) ?_;simp[f3];refine fin _ _ _ (decide (aD x.name)) ⟨by simp[f1],by simp[f3],by simp[f4],by simp⟩ (by simp[k0]) (by simp;rfl) ⟨by simp,by simp,by simp[aE.cut,hk,aE.cells,aE.z,jy,gI,Ex.cells,aY.cells,iH]⟩ (by simp[aE.ok,hk])
theorem aaP (x:aE) (hs:x.sm) (hk:x.kind=1) (F:Fr) (K:Hp) (Q:QA) (E:mA x F K) (fin:fF x Q):VC pG uG F K 2 [] Q:=by
 obtain⟨f1,f3,f4,f5,k0,k1⟩:=E;have x1:=x.c1;have x2:=x.c2;have x3:=x.c3;have x4:=x.c4;have x5:=x.c5;have x6:=x.c6;have x7:=x.c7;have xc:=x.cc;have xq:=x.cq;have xl:=x.aA;unfold fF at fin;rw[hk]at f3 k1 fin;simp only[rJ]at k1;generalize hxs:x.cells=xs at *
 have ng:∀(F':Fr) (K':Hp) (b:Bool),F'.get 1=some (.ptr 0 0)->F'.get 3=some (.int .i64 1)->F'.get 4=some (.ptr 1 0)->F'.get 5=some (.bool b)->K'.get 0=some (.cells 31 [] xs .nil)->(∃tc,K'.get 1=some (.cells 31 [] tc .nil)/\oN x tc)->b=(decide (aD x.table)&&decide (1<=x.ae.length/\x.ae.length<=16))->VC pG (.seq wS (.block 0 (.loop xu))) F' K' 2 [] (hJ pG qA Q):=by
  intro F' K' b w1 w3 w4 w5 g0 ⟨tc,g1,ht⟩ hb;simp[wS];refine ai2 x hs.ae 1 b _ K' 2 _ ⟨by simp[w1],by simp[w3],by simp[w4],by simp[w5]⟩ (by rw[hxs];exact g0) (by simp) λ F5 ⟨w1,w3,w4,w5⟩=>?_;simp[qA,nO,fR,fD,fC,eI,iS,w3];exact fin _ K' tc (b&&x.ae.all eW.ok) ⟨by simp[w1],by simp[w3],by simp[w4],by simp[w5]⟩ g0 g1 ht (by rw[hb];simp[aE.ok,hk])
 simp[uG,lh,tW,tV,f1,f3,f4,k0,k1,xl,x1];refine ao.pure (fw x.table) ?_
 by_cases hn:aD x.table
 ·by_cases h0:0<x.ae.length
  ·by_cases DX:(x.ae.length:Int)<17
   ·simp[gH,eJ,qm,ql,f1,f3,f4,k0,xl,x3,al.ag,hn,h0,DX];rw[<-bA];exact ng _ _ true (by simp[f1]) (by simp[f3]) (by simp[f4]) (by simp) (by simp[k0]) ⟨_,by simp;rfl,⟨by simp,by simp,by simp[aE.cut,hk,aE.cells,aE.z,jy,gI,Ex.cells,aY.cells,iH]⟩⟩ (by simp[hn];omega)
   simp[gH,eJ,qm,ql,f1,f3,f4,k0,xl,x3,al.ag,hn,h0,DX];rw[<-bA];exact ng _ _ false (by simp[f1]) (by simp[f3]) (by simp[f4]) (by simp) (by simp[k0]) ⟨_,by simp;rfl,⟨by simp,by simp,by simp[aE.cut,hk,aE.cells,aE.z,jy,gI,Ex.cells,aY.cells,iH]⟩⟩ (by simp[hn];omega)
  simp[gH,eJ,qm,ql,f1,f3,f4,k0,xl,x3,al.ag,hn,h0];rw[<-bA];exact ng _ _ false (by simp[f1]) (by simp[f3]) (by simp[f4]) (by simp) (by simp[k0]) ⟨_,by simp;rfl,⟨by simp,by simp,by simp[aE.cut,hk,aE.cells,aE.z,jy,gI,Ex.cells,aY.cells,iH]⟩⟩ (by simp[hn];omega)
 simp[gH,eJ,qm,ql,f1,f3,f4,k0,xl,x3,hn];rw[<-bA];exact ng _ _ false (by simp[f1]) (by simp[f3]) (by simp[f4]) (by simp) (by simp[k0]) ⟨_,by simp;rfl,⟨by simp,by simp,by simp[aE.cut,hk,aE.cells,aE.z,jy,gI,Ex.cells,aY.cells,iH]⟩⟩ (by simp[hn])
theorem aaN (x:aE) (hs:x.sm) (hk:x.kind=3) (F:Fr) (K:Hp) (Q:QA) (E:mA x F K) (fin:fF x Q):VC pG uG F K 2 [] Q:=by
 obtain⟨f1,f3,f4,f5,k0,k1⟩:=E;have x1:=x.c1;have x2:=x.c2;have x3:=x.c3;have x4:=x.c4;have x5:=x.c5;have x6:=x.c6;have x7:=x.c7;have xc:=x.cc;have xq:=x.cq;have xl:=x.aA;unfold fF at fin;rw[hk]at f3 k1 fin;simp only[rJ]at k1;generalize hxs:x.cells=xs at *
 have ng:∀(F':Fr) (K':Hp) (b:Bool),F'.get 1=some (.ptr 0 0)->F'.get 3=some (.int .i64 3)->F'.get 4=some (.ptr 1 0)->F'.get 5=some (.bool b)->K'.get 0=some (.cells 31 [] xs .nil)->(∃tc,K'.get 1=some (.cells 31 [] tc .nil)/\oN x tc)->b=(decide (aD x.table)&&decide (aD x.name)&&decide (1<=x.on.length/\x.on.length<=16))->VC pG (.seq BG (.block 2 (.loop zJ))) F' K' 2 [] (hJ pG arO Q):=by
  intro F' K' b w1 w3 w4 w5 g0 ⟨tc,g1,ht⟩ hb;simp[BG];refine ai1 x hs.on 3 b _ K' 2 _ ⟨by simp[w1],by simp[w3],by simp[w4],by simp[w5]⟩ (by rw[hxs];exact g0) (by simp) λ F5 ⟨w1,w3,w4,w5⟩=>?_;simp[arO,nO,fD,fC,eI,iS,w3];exact fin _ K' tc (b&&x.on.all λ s=>decide (aD s)) ⟨by simp[w1],by simp[w3],by simp[w4],by simp[w5]⟩ g0 g1 ht (by rw[hb];simp[aE.ok,hk])
 simp[uG,qA,lh,tW,tV,f1,f3,f4,k0,k1,xl,x1];refine ao.pure (fw x.table) ?_
 have mid:∀(F':Fr) (b:Bool),F'.get 1=some (.ptr 0 0)->F'.get 3=some (.int .i64 3)->F'.get 4=some (.ptr 1 0)->F'.get 5=some (.bool b)->b=(decide (aD x.table)&&decide (aD x.name))->∀K':Hp,K'.get 0=some (.cells 31 [] xs .nil)->K'.get 1=some (.cells 31 [] [.int .i64 3,.str x.table,.str x.name,.ak (.slice none 0 0),.ak (.slice none 0 0),.bool false,.ak (.slice none 0 0),.ak (.slice none 0 0),.int .i64 0,.int .i64 0,.int .i64 0,.str [],.str [],.str [],.int .i64 0,.ak (.slice none 0 0),.bool false,.bool false,.ak (.slice none 0 0),.ak (.slice none 0 0),.int .i64 0,.int .i64 0,.int .i64 0,.str [],.str [],.str [],.int .i64 0,.ak (.slice none 0 0),.ak (.slice none 0 0),.bool false,.int .i64 0] .nil) ->
   VC pG eJ F' K' 2 [] (hJ pG (.cond (aC 48) (.seq qm (.seq ql (.seq wS (.block 0 (.loop xu))))) .skip) (hJ pG qA Q)):=by
  intro F' b f1 f3 f4 f5 hb K' k0 k1;simp only[eJ,qA,fR,Hy];simp[f3];refine bY.of (bH (P:=pG)) ?_;simp[aa,f1,f4,k0,k1,xl,x4,x5]
  cases b with
  | false =>
   simp[aa,sQ,f5];rw[<-bA];exact ng _ _ false (by simp[aa,f1]) (by simp[aa,f3]) (by simp[aa,f4]) (by simp) (by simp[k0]) ⟨_,by simp;rfl,⟨by simp,by simp,by simp[aE.cut,hk,aE.cells,aE.z,jy,gI,Ex.cells,aY.cells,iH]⟩⟩ (by rw[<-hb];rfl)
  | true =>
   by_cases h0:0<x.on.length
   ·by_cases DX:(x.on.length:Int)<17
    ·simp[aa,sQ,f1,f5,k0,xl,x4,al.ag,h0,DX];rw[<-bA];exact ng _ _ true (by simp[aa,f1]) (by simp[aa,f3]) (by simp[aa,f4]) (by simp) (by simp[k0]) ⟨_,by simp;rfl,⟨by simp,by simp,by simp[aE.cut,hk,aE.cells,aE.z,jy,gI,Ex.cells,aY.cells,iH]⟩⟩ (by rw[<-hb];simp<;>omega)
    simp[aa,sQ,f1,f5,k0,xl,x4,al.ag,h0,DX];rw[<-bA];exact ng _ _ false (by simp[aa,f1]) (by simp[aa,f3]) (by simp[aa,f4]) (by simp) (by simp[k0]) ⟨_,by simp;rfl,⟨by simp,by simp,by simp[aE.cut,hk,aE.cells,aE.z,jy,gI,Ex.cells,aY.cells,iH]⟩⟩ (by rw[<-hb];simp<;>omega)
   simp[aa,sQ,f1,f5,k0,xl,x4,al.ag,h0];rw[<-bA];exact ng _ _ false (by simp[aa,f1]) (by simp[aa,f3]) (by simp[aa,f4]) (by simp) (by simp[k0]) ⟨_,by simp;rfl,⟨by simp,by simp,by simp[aE.cut,hk,aE.cells,aE.z,jy,gI,Ex.cells,aY.cells,iH]⟩⟩ (by rw[<-hb];simp<;>omega)
 by_cases hn:aD x.table
 ·simp[gH,wU,wT,f1,f3,f4,k0,xl,x2,hn];refine ao.pure (fw x.name) ?_;simp;exact mid _ (decide (aD x.name)) (by simp[f1]) (by simp[f3]) (by simp[f4]) (by simp) (by simp[hn]) _ (by simp[k0]) (by simp)
 simp[gH,wU,wT,f1,f3,f4,k0,xl,x2,hn];exact mid _ false (by simp[f1]) (by simp[f3]) (by simp[f4]) (by simp) (by simp[hn]) _ (by simp[k0]) (by simp)
theorem aaL (x:aE)(hs:x.sm)(hk:x.kind=5)(F:Fr)(K:Hp)(Q:QA)(E:mA x F K)(fin:fF x Q):VC pG uG F K 2 [] Q:=by
 obtain⟨f1,f3,f4,f5,k0,k1⟩:=E;have x1:=x.c1;have x2:=x.c2;have x3:=x.c3;have x4:=x.c4;have x5:=x.c5;have x6:=x.c6;have x7:=x.c7;have xc:=x.cc;have xq:=x.cq;have xl:=x.aA;unfold fF at fin;rw[hk]at f3 k1 fin;simp only[rJ]at k1;generalize hxs:x.cells=xs at *
 have ng:∀(F':Fr) (K':Hp) (b:Bool),F'.get 1=some (.ptr 0 0)->F'.get 3=some (.int .i64 5)->F'.get 4=some (.ptr 1 0)->F'.get 5=some (.bool b)->K'.get 0=some (.cells 31 [] xs .nil)->(∃tc,K'.get 1=some (.cells 31 [] tc .nil)/\oN x tc)->b=(decide (aD x.table)&&decide (0<x.rows.length))->VC pG (.seq wP (.block 4 (.loop xn))) F' K' 2 [] (hJ pG arN Q):=by
  intro F' K' b w1 w3 w4 w5 g0 ⟨tc,g1,ht⟩ hb;simp[wP];refine ai0 x hs.rows hs.row 5 b _ K' 2 _ ⟨by simp[w1],by simp[w3],by simp[w4],by simp[w5]⟩ (by rw[hxs];exact g0) (by simp) λ F5 ⟨w1,w3,w4,w5⟩=>?_;simp[arN,nO,fC,eI,iS,w3];exact fin _ K' tc (b&&x.rows.all rowOk) ⟨by simp[w1],by simp[w3],by simp[w4],by simp[w5]⟩ g0 g1 ht (by rw[hb];simp[aE.ok,hk])
 simp[uG,qA,lh,tW,tV,f1,f3,f4,k0,k1,xl,x1];refine ao.pure (fw x.table) ?_
 by_cases hn:aD x.table
 ·simp[gH,eJ,fR,fD,wR,wQ,f1,f3,f4,k0,xl,x6,al.ag,hn];rw[<-bA];exact ng _ _ (decide (0<x.rows.length)) (by simp[f1]) (by simp[f3]) (by simp[f4]) (by simp) (by simp[k0]) ⟨_,by simp;rfl,⟨by simp,by simp,by simp[aE.cut,hk,aE.cells,aE.z,jy,gI,Ex.cells,aY.cells,iH]⟩⟩ (by simp[hn])
 simp[gH,eJ,fR,fD,wR,wQ,f1,f3,f4,k0,xl,x6,hn];rw[<-bA];exact ng _ _ false (by simp[f1]) (by simp[f3]) (by simp[f4]) (by simp) (by simp[k0]) ⟨_,by simp;rfl,⟨by simp,by simp,by simp[aE.cut,hk,aE.cells,aE.z,jy,gI,Ex.cells,aY.cells,iH]⟩⟩ (by simp[hn])
theorem JH:∀ {a a' b b':List AV},NL a a'->NL b b'->NL (a++b) (a'++b')
 | [],[],_,_,_,h2=>h2
 | [],_::_,_,_,h1,_=>by simp[NL]at h1
 | _::_,[],_,_,h1,_=>by simp[NL]at h1
 | _::_,_::_,_,_,h1,h2=>by simp only[cons_append,FF]at h1 ⊢;exact⟨h1.1,JH h1.2 h2⟩
theorem FE:∀l:List AV,NL l l
 | []=>by simp
 | v::l=>by simp[FE l]
theorem acB (e:Ex):NL (e.cells++[.bool false,.bool false,.ak (.slice none 0 0),.ak (.slice none 0 0),.int .i64 0,.int .i64 0,.int .i64 0,.str [],.str [],.str [],.int .i64 0,.ak (.slice none 0 0),.ak (.slice none 0 0),.bool false,.int .i64 0]) (e.cells++gI.cells):=JH (FE _) nvQ
theorem aaK (x:aE)(hs:x.sm)(hk:x.kind=6)(F:Fr)(K:Hp)(Q:QA)(E:mA x F K)(fin:fF x Q):VC pG uG F K 2 [] Q:=by
 obtain⟨f1,f3,f4,f5,k0,k1⟩:=E;have x1:=x.c1;have x2:=x.c2;have x3:=x.c3;have x4:=x.c4;have x5:=x.c5;have x6:=x.c6;have x7:=x.c7;have xc:=x.cc;have xq:=x.cq;have xl:=x.aA;unfold fF at fin;rw[hk]at f3 k1 fin;simp only[rJ]at k1;generalize hxs:x.cells=xs at *;have Od:=vm x.cond hs.cond;have h80:=Ai x.cond hs.cond;have pP:ai pG 81 [.agg x.cond.cells 8] (.bool x.cond.may):=Od;have AK:ai pG 80 [.agg x.cond.cells 8] (.bool (decide (x.cond.bare 0))):=h80;have hcl:x.cond.cells.length=8:=by simp
 have hc1:bm x.cond.cells=true:=by simp
 have hpt:patch [.int .i64 6,.str x.table,.str [],.ak (.slice none 0 0),.ak (.slice none 0 0),.bool false,.ak (.slice none 0 0),.ak (.slice none 0 0),.int .i64 0,.int .i64 0,.int .i64 0,.str [],.str [],.str [],.int .i64 0,.ak (.slice none 0 0),.bool false,.bool false,.ak (.slice none 0 0),.ak (.slice none 0 0),.int .i64 0,.int .i64 0,.int .i64 0,.str [],.str [],.str [],.int .i64 0,.ak (.slice none 0 0),.ak (.slice none 0 0),.bool false,.int .i64 0] 8 x.cond.cells=some ([.int .i64 6,.str x.table,.str [],.ak (.slice none 0 0),.ak (.slice none 0 0),.bool false,.ak (.slice none 0 0),.ak (.slice none 0 0)]++(x.cond.cells++[.bool false,.bool false,.ak (.slice none 0 0),.ak (.slice none 0 0),.int .i64 0,.int .i64 0,.int .i64 0,.str [],.str [],.str [],.int .i64 0,.ak (.slice none 0 0),.ak (.slice none 0 0),.bool false,.int .i64 0])):=by
  simpa using mQ [.bool false,.bool false,.ak (.slice none 0 0),.ak (.slice none 0 0),.int .i64 0,.int .i64 0,.int .i64 0,.str [],.str [],.str [],.int .i64 0,.ak (.slice none 0 0),.ak (.slice none 0 0),.bool false,.int .i64 0] [.int .i64 6,.str x.table,.str [],.ak (.slice none 0 0),.ak (.slice none 0 0),.bool false,.ak (.slice none 0 0),.ak (.slice none 0 0)] [.int .i64 0,.int .i64 0,.int .i64 0,.str [],.str [],.str [],.int .i64 0,.ak (.slice none 0 0)] x.cond.cells (by simp)
 have Ga:∀(F':Fr) (K':Hp) (b:Bool),F'.get 1=some (.ptr 0 0)->F'.get 3=some (.int .i64 6)->F'.get 4=some (.ptr 1 0)->F'.get 5=some (.bool b)->K'.get 0=some (.cells 31 [] xs .nil)->K'.get 1=some (.cells 31 [] ([.int .i64 6,.str x.table,.str [],.ak (.slice none 0 0),.ak (.slice none 0 0),.bool false,.ak (.slice none 0 0),.ak (.slice none 0 0)]++(x.cond.cells++[.bool false,.bool false,.ak (.slice none 0 0),.ak (.slice none 0 0),.int .i64 0,.int .i64 0,.int .i64 0,.str [],.str [],.str [],.int .i64 0,.ak (.slice none 0 0),.ak (.slice none 0 0),.bool false,.int .i64 0])) .nil)->b=(decide (aD x.table)&&x.cond.maybe)->VC pG (.seq (.seq eI (.cond (aC 186) (.seq kI (.seq kH (.seq nF (.block 6 (.loop oZ))))) .skip)) nO) F' K' 2 [] Q:=by
  intro F' K' b w1 w3 w4 w5 g0 g1 hb;simp[nO,eI,iS,w3];refine fin _ K' _ b ⟨by simp[w1],by simp[w3],by simp[w4],by simp[w5]⟩ g0 g1 ⟨by simp,by simp,?_⟩ (by rw[hb];simp[aE.ok,hk]);have e:x.cut.cells=[.int .i64 6,.str x.table,.str [],aW.ds [],bB.ds [],.bool false,dw.ds [],eQ.ds []]++(x.cond.cells++gI.cells):=by simp[aE.cut,hk,aE.cells,aE.z]
  rw[e];exact JH (by simp) (acB _)
 simp[uG,qA,lh,tW,tV,f1,f3,f4,k0,k1,xl,x1];refine ao.pure (fw x.table) ?_
 by_cases hn:aD x.table
 ·simp[gH,eJ,fR,fD,fC,nH,nG,f1,f3,f4,k0,xl,xc,hn,hpt];refine ao.pure AK ?_
  by_cases hb:x.cond.bare 0
  ·simp[hb];rw[<-bA];exact Ga _ _ true (by simp[f1]) (by simp[f3]) (by simp[f4]) (by simp) (by simp[k0]) (by simp) (by simp[hn,Ex.maybe,hb])
  simp[f1,k0,xl,xc,hb];refine ao.pure pP ?_;simp;rw[<-bA];exact Ga _ _ x.cond.may (by simp[f1]) (by simp[f3]) (by simp[f4]) (by simp) (by simp[k0]) (by simp) (by simp[hn,Ex.maybe,hb])
 simp[gH,eJ,fR,fD,fC,nH,nG,f1,f3,f4,k0,xl,xc,hn,hpt];rw[<-bA];exact Ga _ _ false (by simp[f1]) (by simp[f3]) (by simp[f4]) (by simp) (by simp[k0]) (by simp) (by simp[hn])
theorem aaJ (x:aE) (hs:x.sm) (hk:x.kind=7) (F:Fr) (K:Hp) (Q:QA) (E:mA x F K) (fin:fF x Q):VC pG uG F K 2 [] Q:=by
 obtain⟨f1,f3,f4,f5,k0,k1⟩:=E;have x1:=x.c1;have x2:=x.c2;have x3:=x.c3;have x4:=x.c4;have x5:=x.c5;have x6:=x.c6;have x7:=x.c7;have xc:=x.cc;have xq:=x.cq;have xl:=x.aA;unfold fF at fin;rw[hk]at f3 k1 fin;simp only[rJ]at k1;generalize hxs:x.cells=xs at *;have Od:=vm x.cond hs.cond;have h80:=Ai x.cond hs.cond;have pP:ai pG 81 [.agg x.cond.cells 8] (.bool x.cond.may):=Od;have AK:ai pG 80 [.agg x.cond.cells 8] (.bool (decide (x.cond.bare 0))):=h80;have hcl:x.cond.cells.length=8:=by simp
 have hc1:bm x.cond.cells=true:=by simp
 have hpt:patch [.int .i64 7,.str x.table,.str [],.ak (.slice none 0 0),.ak (.slice none 0 0),.bool false,.ak (.slice none 0 0),.ak (.slice none 0 0),.int .i64 0,.int .i64 0,.int .i64 0,.str [],.str [],.str [],.int .i64 0,.ak (.slice none 0 0),.bool false,.bool false,.ak (.slice none 0 0),.ak (.slice none 0 0),.int .i64 0,.int .i64 0,.int .i64 0,.str [],.str [],.str [],.int .i64 0,.ak (.slice none 0 0),.ak (.slice none 0 0),.bool false,.int .i64 0] 8 x.cond.cells=some ([.int .i64 7,.str x.table,.str [],.ak (.slice none 0 0),.ak (.slice none 0 0),.bool false,.ak (.slice none 0 0),.ak (.slice none 0 0)]++(x.cond.cells++[.bool false,.bool false,.ak (.slice none 0 0),.ak (.slice none 0 0),.int .i64 0,.int .i64 0,.int .i64 0,.str [],.str [],.str [],.int .i64 0,.ak (.slice none 0 0),.ak (.slice none 0 0),.bool false,.int .i64 0])):=by
  simpa using mQ [.bool false,.bool false,.ak (.slice none 0 0),.ak (.slice none 0 0),.int .i64 0,.int .i64 0,.int .i64 0,.str [],.str [],.str [],.int .i64 0,.ak (.slice none 0 0),.ak (.slice none 0 0),.bool false,.int .i64 0] [.int .i64 7,.str x.table,.str [],.ak (.slice none 0 0),.ak (.slice none 0 0),.bool false,.ak (.slice none 0 0),.ak (.slice none 0 0)] [.int .i64 0,.int .i64 0,.int .i64 0,.str [],.str [],.str [],.int .i64 0,.ak (.slice none 0 0)] x.cond.cells (by simp)
 have ng:∀(F':Fr) (K':Hp) (b:Bool),F'.get 1=some (.ptr 0 0)->F'.get 3=some (.int .i64 7)->F'.get 4=some (.ptr 1 0)->F'.get 5=some (.bool b)->K'.get 0=some (.cells 31 [] xs .nil)->(∃tc,K'.get 1=some (.cells 31 [] tc .nil)/\oN x tc)->b=(decide (aD x.table)&&x.cond.maybe&&decide (1<=x.sets.length/\x.sets.length<=16))->VC pG (.seq nF (.block 6 (.loop oZ))) F' K' 2 [] (hJ pG nO Q):=by
  intro F' K' b w1 w3 w4 w5 g0 ⟨tc,g1,ht⟩ hb;simp[nF];refine aiZ x hs.sets hs.set 7 b _ K' 2 _ ⟨by simp[w1],by simp[w3],by simp[w4],by simp[w5]⟩ (by rw[hxs];exact g0) (by simp) λ F5 ⟨w1,w3,w4,w5⟩=>?_;simp[nO,iS,w3];refine fin _ K' tc (b&&x.sets.all ku.ok) ⟨by simp[w1],by simp[w3],by simp[w4],by simp[w5]⟩ g0 g1 ht ?_;rw[hb];simp only[aE.ok,hk]
  cases decide (aD x.table)<;>cases x.cond.maybe<;>simp
 have Ga : ∀(F':Fr) (K':Hp) (b:Bool),F'.get 1=some (.ptr 0 0)->F'.get 3=some (.int .i64 7)->F'.get 4=some (.ptr 1 0)->F'.get 5=some (.bool b)->K'.get 0=some (.cells 31 [] xs .nil)->K'.get 1=some (.cells 31 [] ([.int .i64 7,.str x.table,.str [],.ak (.slice none 0 0),.ak (.slice none 0 0),.bool false,.ak (.slice none 0 0),.ak (.slice none 0 0)]++(x.cond.cells++[.bool false,.bool false,.ak (.slice none 0 0),.ak (.slice none 0 0),.int .i64 0,.int .i64 0,.int .i64 0,.str [],.str [],.str [],.int .i64 0,.ak (.slice none 0 0),.ak (.slice none 0 0),.bool false,.int .i64 0])) .nil)->b=(decide (aD x.table)&&x.cond.maybe)->VC pG (.seq (.seq eI (.cond (aC 186) (.seq kI (.seq kH (.seq nF (.block 6 (.loop oZ))))) .skip)) nO) F' K' 2 [] Q:=by
  intro F' K' b w1 w3 w4 w5 g0 g1 hb
  have nl:∀tc,tc=[.int .i64 7,.str x.table,.str [],.ak (.slice none 0 0),.ak (.slice none 0 0),.bool false,.ak (.slice none 0 0),eQ.ds x.sets]++(x.cond.cells++[.bool false,.bool false,.ak (.slice none 0 0),.ak (.slice none 0 0),.int .i64 0,.int .i64 0,.int .i64 0,.str [],.str [],.str [],.int .i64 0,.ak (.slice none 0 0),.ak (.slice none 0 0),.bool false,.int .i64 0])->oN x tc:=by
   rintro tc rfl;refine⟨by simp,by simp,?_⟩;have e:x.cut.cells=[.int .i64 7,.str x.table,.str [],aW.ds [],bB.ds [],.bool false,dw.ds [],eQ.ds x.sets]++(x.cond.cells++gI.cells):=by simp[aE.cut,hk,aE.cells,aE.z]
   rw[e];exact JH (by simp) (acB _)
  simp only[cons_append,nil_append]at g1 nl;have hc1':bm x.cond.cells=true:=by simp
  cases b with
  | false =>
   simp[eI,kI,kH,w1,w3,w4,w5,g0,g1,xl,x7];rw[<-bA];exact ng _ _ false (by simp[w1]) (by simp[w3]) (by simp[w4]) (by simp) (by simp[g0]) ⟨_,by simp,nl _ rfl⟩ (by rw[<-hb];simp)
  | true =>
   by_cases h0:0<x.sets.length
   ·by_cases DX:(x.sets.length:Int)<17
    ·simp[eI,kI,kH,w1,w3,w4,w5,g0,g1,xl,x7,al.ag,h0,DX];rw[<-bA];exact ng _ _ true (by simp[w1]) (by simp[w3]) (by simp[w4]) (by simp) (by simp[g0]) ⟨_,by simp,nl _ rfl⟩ (by rw[<-hb];simp<;>omega)
    simp[eI,kI,kH,w1,w3,w4,w5,g0,g1,xl,x7,al.ag,h0,DX];rw[<-bA];exact ng _ _ false (by simp[w1]) (by simp[w3]) (by simp[w4]) (by simp) (by simp[g0]) ⟨_,by simp,nl _ rfl⟩ (by rw[<-hb];simp<;>omega)
   simp[eI,kI,kH,w1,w3,w4,w5,g0,g1,xl,x7,al.ag,h0];rw[<-bA];exact ng _ _ false (by simp[w1]) (by simp[w3]) (by simp[w4]) (by simp) (by simp[g0]) ⟨_,by simp,nl _ rfl⟩ (by rw[<-hb];simp<;>omega)
 simp[uG,qA,lh,tW,tV,f1,f3,f4,k0,k1,xl,x1];refine ao.pure (fw x.table) ?_
 by_cases hn:aD x.table
 ·simp[gH,eJ,fR,fD,fC,nH,nG,f1,f3,f4,k0,xl,xc,hn,hpt];refine ao.pure AK ?_
  by_cases hb:x.cond.bare 0
  ·simp[hb];rw[<-bA];exact Ga _ _ true (by simp[f1]) (by simp[f3]) (by simp[f4]) (by simp) (by simp[k0]) (by simp) (by simp[hn,Ex.maybe,hb])
  simp[f1,k0,xl,xc,hb];refine ao.pure pP ?_;simp;rw[<-bA];exact Ga _ _ x.cond.may (by simp[f1]) (by simp[f3]) (by simp[f4]) (by simp) (by simp[k0]) (by simp) (by simp[hn,Ex.maybe,hb])
 simp[gH,eJ,fR,fD,fC,nH,nG,f1,f3,f4,k0,xl,xc,hn,hpt];rw[<-bA];exact Ga _ _ false (by simp[f1]) (by simp[f3]) (by simp[f4]) (by simp) (by simp[k0]) (by simp) (by simp[hn])
theorem aaI (x:aE)(hs:x.sm)(hk:x.kind=8)(F:Fr)(K:Hp)(Q:QA)(E:mA x F K)(fin:fF x Q):VC pG uG F K 2 [] Q:=by
 obtain⟨f1,f3,f4,f5,k0,k1⟩:=E;have x1:=x.c1;have x2:=x.c2;have x3:=x.c3;have x4:=x.c4;have x5:=x.c5;have x6:=x.c6;have x7:=x.c7;have xc:=x.cc;have xq:=x.cq;have xl:=x.aA;unfold fF at fin;rw[hk]at f3 k1 fin;simp only[rJ]at k1;generalize hxs:x.cells=xs at *;have h82:=aad x.q hs.items hs.ab hs.order hs.item hs.src hs.qc;have avJ:ai pG 82 [.agg x.q.cells 15] (.bool x.q.may):=h82;have fo:x.q.cells.length=15:=by simp
 have hq1:bm x.q.cells=true:=by simp[aY.cells]
 have tk:take 15 x.q.cells=x.q.cells:=take_of_length_le (by simp)
 have hpt:patch [.int .i64 8,.str [],.str [],.ak (.slice none 0 0),.ak (.slice none 0 0),.bool false,.ak (.slice none 0 0),.ak (.slice none 0 0),.int .i64 0,.int .i64 0,.int .i64 0,.str [],.str [],.str [],.int .i64 0,.ak (.slice none 0 0),.bool false,.bool false,.ak (.slice none 0 0),.ak (.slice none 0 0),.int .i64 0,.int .i64 0,.int .i64 0,.str [],.str [],.str [],.int .i64 0,.ak (.slice none 0 0),.ak (.slice none 0 0),.bool false,.int .i64 0] 16 x.q.cells=some ([.int .i64 8,.str [],.str [],.ak (.slice none 0 0),.ak (.slice none 0 0),.bool false,.ak (.slice none 0 0),.ak (.slice none 0 0),.int .i64 0,.int .i64 0,.int .i64 0,.str [],.str [],.str [],.int .i64 0,.ak (.slice none 0 0)]++x.q.cells):=by
  simpa using mQ [] [.int .i64 8,.str [],.str [],.ak (.slice none 0 0),.ak (.slice none 0 0),.bool false,.ak (.slice none 0 0),.ak (.slice none 0 0),.int .i64 0,.int .i64 0,.int .i64 0,.str [],.str [],.str [],.int .i64 0,.ak (.slice none 0 0)] [.bool false,.bool false,.ak (.slice none 0 0),.ak (.slice none 0 0),.int .i64 0,.int .i64 0,.int .i64 0,.str [],.str [],.str [],.int .i64 0,.ak (.slice none 0 0),.ak (.slice none 0 0),.bool false,.int .i64 0] x.q.cells (by simp)
 simp[uG,qA,nO,lh,gH,eJ,fR,fD,fC,eI,iS,Hq,Ho,f1,f3,f4,k0,k1,xl,xq,hq1,tk,hpt];refine ao.pure avJ ?_;simp;refine fin _ _ _ (x.q.may) ⟨by simp[f1],by simp[f3],by simp[f4],by simp⟩ (by simp[k0]) (by simp;rfl) ⟨by simp,by simp[aY.pure],?_⟩ (by simp[aE.ok,hk]);have e:x.cut.cells=[.int .i64 8,.str [],.str [],aW.ds [],bB.ds [],.bool false,dw.ds [],eQ.ds []]++(jy.cells++x.q.cells):=by simp[aE.cut,hk,aE.cells,aE.z]
 have e2:jy.cells=[.int .i64 0,.int .i64 0,.int .i64 0,.str [],.str [],.str [],.int .i64 0,.ds (Ex.aI []) 0 8]:=rfl;rw[e,e2];simp[iH,FE]
theorem anQ (x:aE)(hs:x.sm):ai pG 24 [x.av] (.bool x.may):=by
 refine bf c24 (by simp) (by simp) (by simp[A24]) λ F hF=>?_;have gN:x.av=.agg x.cells 31:=Eq.trans rfl rfl;rw[gN]at hF;have x0:=x.c0';have xl:=x.aA;have hcode:A24.code=B24:=rfl;have hres:A24.res=[aP 2]:=rfl;rw[hcode,hres,b24];have fin:=aiY x hs
 have body:∀(F:Fr) (K:Hp),mA x F K->VC pG uG F K 2 [] (iR [aP 2] λ v1 H' _=>dU H'.get v1 (.bool x.may))∨¬(1<=x.kind/\x.kind<=11):=by
  intro F K E
  by_cases h:1<=x.kind/\x.kind<=11
  ·have:x.kind=1∨x.kind=2∨x.kind=3∨x.kind=4∨x.kind=5∨x.kind=6∨x.kind=7∨x.kind=8∨x.kind=9∨x.kind=10∨x.kind=11:=by omega
   rcases this with h | h | h | h | h | h | h | h | h | h | h
   ·exact .inl (aaP x hs h F K _ E fin)
   ·exact .inl (aaO x hs h F K _ E fin)
   ·exact .inl (aaN x hs h F K _ E fin)
   ·exact .inl (aaM x hs h F K _ E fin)
   ·exact .inl (aaL x hs h F K _ E fin)
   ·exact .inl (aaK x hs h F K _ E fin)
   ·exact .inl (aaJ x hs h F K _ E fin)
   ·exact .inl (aaI x hs h F K _ E fin)
   ·exact .inl (aaH x hs h F K _ E fin)
   ·exact .inl (QI x hs h F K _ E fin)
   exact .inl (QH x hs h F K _ E fin)
  exact .inr h
 by_cases h1:x.kind<1
 ·have hm:x.may=false:=by simp[aE.may,aE.ok,show ¬x.kind=1 by omega,show ¬x.kind=2 by omega,show ¬x.kind=3 by omega,show ¬x.kind=4 by omega,show ¬x.kind=5 by omega,show ¬x.kind=6 by omega,show ¬x.kind=7 by omega,show ¬x.kind=8 by omega,show ¬x.kind=9 by omega,show ¬x.kind=10 by omega,show ¬x.kind=11 by omega]
  rw[hm];simp[EL,EK,EJ,Lb,hF,x0,xl,h1];exact .bool rfl
 by_cases h11:11<x.kind
 ·have hm:x.may=false:=by simp[aE.may,aE.ok,show ¬x.kind=1 by omega,show ¬x.kind=2 by omega,show ¬x.kind=3 by omega,show ¬x.kind=4 by omega,show ¬x.kind=5 by omega,show ¬x.kind=6 by omega,show ¬x.kind=7 by omega,show ¬x.kind=8 by omega,show ¬x.kind=9 by omega,show ¬x.kind=10 by omega,show ¬x.kind=11 by omega]
  rw[hm];simp[EL,EK,EJ,Lb,hF,x0,xl,h1,h11];exact .bool rfl
 simp[EL,EK,EJ,V8,V6,hF,x0,xl,h1,h11];refine(body _ _ ⟨by simp,by simp,by simp,by simp,by simp,by simp[rJ]⟩).elim id λ h=>absurd (by omega) h
theorem kP.oQ {h:Hf}{φ:Ph}{D:Da}{w:World}(hr:Rel φ D h w):∀ {l l':List AV}{xs:List Value},kP h l l'->bW φ D l xs->bW φ (Go.Abs.shut φ D h w) l' xs
 | [],[],_,_,.nil=>.nil
 | [],_::_,_,k,_=>by simp[kP]at k
 | _::_,[],_,k,_=>by simp[kP]at k
 | _::_,_::_,_,k,.cons _ _ _ _ h1 h2=>by
  simp only[AW]at k;exact .cons _ _ _ _ (k.1.vr hr h1) (kP.oQ hr k.2 h2)
theorem aH.zs {P:Program}{g:FuncId}{args args':List AV}{h:Hf}{F F2:Fr}{H H2:Hp}{n:Nat}{R:AV->Hp->Nat->Prop}(s:eH h F H F2 H2)(ha:kP h args args')(hc:aH P g args' H2 n R):aH P g args H n R:=
 ⟨hc.1,λ φ D w xs hr hv hf RR hR=>hc.2 φ (Go.Abs.shut φ D h w) w xs (s.rel hr) (ha.oQ (hr.sub s.sub) hv) hf RR λ v H' n' φ' D' w' x r e k hx=>hR v H' n' φ' D' w' x r (s.ext.trans e) k hx⟩
theorem ao.zs {f:FuncId}{vs vs':List AV}{pd:Pd}{r:List (Option GO)}{P:Program}{h:Hf}{F F1 F2:Fr}{H H2:Hp}{n:Nat}{m:List Dm}{Q:QA}(s:eH h F1 H F2 H2)(ha:kP h vs vs')(hc:ao f vs' pd r P F H2 n m Q):ao f vs pd r P F H n m Q:=aH.zs s ha hc
theorem eH.one (F:Fr)(K:Hp)(b:Nat):eH (λ c=>if c=b then K.get c else none) F K F (K.put b none):=
 ⟨λ c k h=>by
  by_cases e:c=b
  ·simpa[e]using h
  ·simp[e]at h,λ c h=>by
  by_cases e:c=b
  ·simp[e]
  ·simp[e]at h,λ t v h=>⟨v,h,.inl rfl⟩,λ c y h=>by
  by_cases e:c=b
  ·simp[e]at h
  exact⟨y,by simpa[e]using h,.inl rfl⟩⟩
theorem NM (s:bD)(x:aE)(hn:(s.named x.table).2=false)(hk:x.kind=2∨x.kind=3∨x.kind=5∨x.kind=6∨x.kind=7):jX (dJ (bM s x))=(jU,200):=by
 have h2:(200:Int)≠0:=by decide
 rcases hk with h | h | h | h | h
 ·have hb:bM s x=({kind:=x.kind,table:=(s.named x.table).1},keep 0 200 (!(s.named x.table).2)):=by simp[bM,h]
  rw[hb,hn];rfl
 ·have hb:bM s x=indexB s x 0:=by simp[bM,h]
  rw[hb];unfold indexB;rw[hn,show keep 0 200 (!false)=200 by rfl,eO h2];have:=Ah (s.named x.table).1 x.on 200 x.on.length 0 (by simp[onE]);rw[Nat.zero_add]at this;rw[this];rfl
 ·have hb:bM s x=cV s x 0:=by simp[bM,h]
  rw[hb];unfold cV;rw[hn,show keep 0 200 (!false)=200 by rfl,JW _ _ h2];rfl
 ·have hb:bM s x=jB s x 0:=by simp[bM,h]
  rw[hb];unfold jB;rw[hn,show keep 0 200 (!false)=200 by rfl,if_pos h2];rfl
 have hb:bM s x=gO s x 0:=by simp[bM,h]
 rw[hb];unfold gO;rw[hn,show keep 0 200 (!false)=200 by rfl,if_pos h2];rfl
structure als (s:bD)(x:aE):Prop where
 dE:s.dE
 sm:x.sm
 ok:eY s
 may:x.may=true
theorem als.kind {s:bD}{x:aE}(h:als s x):1<=x.kind/\x.kind<=11:=by
 have ok:=aE.Qt h.may
 by_cases h1:x.kind=1;· omega
 by_cases h2:x.kind=2;· omega
 by_cases h3:x.kind=3;· omega
 by_cases h4:x.kind=4;· omega
 by_cases h5:x.kind=5;· omega
 by_cases h6:x.kind=6;· omega
 by_cases h7:x.kind=7;· omega
 by_cases h8:x.kind=8;· omega
 simp[aE.ok,h1,h2,h3,h4,h5,h6,h7,h8]at ok;omega
theorem abA (s:bD) (x:aE) (G:als s x):ai pG 25 [cw.av s,.agg x.cells 31] (.bg [.agg (gu s x).1.cells 25,.int .i64 (gu s x).2]):=by
 obtain⟨hs,hx,ho,hm⟩:=id G;have hkd:=G.kind;have ok:=aE.Qt hm;have hnm:=JL s hs x.table;have htc:(s.named x.table).1.ae.length<=lim:=cE (Q:=λ t:aR=>t.ae.length<=lim) (by simp[aR.zero,lim]) hs.tc;refine bf c25 (by simp) (by simp) (by simp[A25]) λ F hF=>?_;have hsv:cw.av s=.agg [aG.ds s.tables,bC.ds s.indexes] 2:=Eq.trans rfl rfl;have x0:=λ h=>x.c0' h;generalize hT:s.named x.table=T at *;have hT2:(s.named x.table).2=T.2:=by rw[hT]
 obtain⟨t,tb⟩:=T;simp only at hnm htc;have htv:aG.av t=.agg (aG.cells t) 4:=rfl;have hsc:cw.av s=.agg (cw.cells s) 2:=rfl;rw[hsc,htv]at hnm;generalize hR:gu s x=R;have r1:=R.1.one;have r2:R.1.cells.length=25:=rfl;simp[A25,B25,ahf,ahe,hF,al.av,aE.c1];refine ao.pure hnm ?_;simp
 by_cases h1:x.kind=1
 ·have hr:R=jX (dJ (cY s x 0)):=by
   rw[<-hR];unfold gu;rw[if_neg (by omega),if_neg (by omega)];simp[bM,h1]
  have hc:=RX s x hx.ae;rw[hT]at hc;rw[<-hr]at hc;simp[oY,ahd,x0,h1];refine ao.pure hc ?_;simp[r1,r2];exact .pure _ (by simp)
 by_cases h9:9<=x.kind
 ·have hr:R=(jU,0):=by
   rw[<-hR];unfold gu;rw[if_neg (by omega),if_neg (by omega)];have hb:bM s x=({kind:=x.kind},0):=by unfold bM;repeat (rw[if_neg (by omega)])
   rw[hb];rfl
  rw[hr];simp[oY,rD,ahc,x0,h1,h9];exact kQ
 by_cases h8:x.kind=8
 ·have hr:R=jX (dJ (cJ s x.q 8 0)):=by
   rw[<-hR];unfold gu;rw[if_neg (by omega),if_neg (by omega)];simp[bM,h8]
  simp[aE.ok,h8]at ok;have hqf:=aY.AU ho hx ok
  have hq:=aac s hs x.q hqf (λ e=>by
   have h:=ok;simp only[aY.may,Bool.and_eq_true]at h;have h6:=h.1.1.1.2
   rw[e]at h6;simpa using h6) (ga.of ho _ λ t ht=>by obtain⟨y,_,rfl⟩:=mem_map.1 ht;exact yM s _) (by have:=hqf.k;omega) (λ t ht=>by
    obtain⟨y,_,rfl⟩:=mem_map.1 ht;exact cE (Q:=λ t:aR=>t.ae.length<=lim) (by simp[aR.zero,lim]) hs.tc)
  rw[<-hr,hsc]at hq;simp[oY,rD,tT,ahb,x0,h8,aE.tq];refine ao.pure hq ?_;simp[r1,r2];exact .pure _ (by simp)
 by_cases h4:x.kind=4
 ·have hr:R=jX (dJ (dB s x 0)):=by
   rw[<-hR];unfold gu;rw[if_neg (by omega),if_neg (by omega)];simp[bM,h4]
  have hi:=JY s hs x.name;unfold dB at hr;have htb:=Js s hs (s.index x.name).1.table;generalize s.index x.name=I at *;obtain⟨ix,ib⟩:=I;simp only at hi htb hr;generalize s.table ix.table=T2 at *;obtain⟨t2,tb2⟩:=T2;rw[hsc,show bC.av ix=.agg (bC.cells ix) 6 from rfl]at hi;rw[hsc,show aG.av t2=AV.agg (aG.cells t2) 4 from rfl]at htb;simp[oY,rD,tT,wN,aha,x0,h4,aE.c2];refine ao.pure hi ?_
  cases ib with
  | false =>
   have hr:R=(jU,202):=by rw[hr];rfl
   rw[hr];simp[Hn,V5];exact kQ
  | true =>
   have hr:R=({kind:=0,table:=t2,index:=ix},0):=by rw[hr];rfl
   rw[hr];simp[Hn,V4,eG];refine ao.pure htb ?_;simp[V3,aU];refine C0 ?_;simp[ew.cells]
 cases tb with
 | false =>
  have hk:x.kind=2∨x.kind=3∨x.kind=5∨x.kind=6∨x.kind=7:=by omega
  have hr:R=(jU,200):=by
   rw[<-hR];unfold gu;rw[hT2,if_neg (by simp),if_neg (by simp)];exact NM s x hT2 hk
  rw[hr];simp[oY,rD,tT,wN,sP,V2,x0,h1,h9,h8,h4];exact kQ
 | true =>
  by_cases h3:x.kind=3
  ·have hr:R=jX (dJ (indexB s x 0)):=by
    rw[<-hR];unfold gu;rw[if_neg (by omega),if_neg (by omega)];simp[bM,h3]
   have hc:=aa7 s hs x hx.on t hT htc;rw[<-hr,hsc,htv]at hc;simp[oY,rD,tT,wN,sP,wO,V1,x0,h3];refine ao.pure hc ?_;simp[r1,r2];exact .pure _ (by simp)
  by_cases h5:x.kind=5
  ·have hr:R=jX (dJ (cV s x 0)):=by
    rw[<-hR];unfold gu;rw[if_neg (by omega),if_neg (by omega)];simp[bM,h5]
   have hc:=Q6 s x hx.rows (λ r hr=>⟨(hx.row r hr).1,λ e he=>⟨(hx.row r hr).2 e he,by
    simp[aE.ok,h5]at ok;have:=ok.2 r hr;simp only[rowOk,Bool.and_eq_true,all_eq_true]at this;exact this.2 e he⟩⟩) t hT
   rw[<-hr,htv]at hc;simp[oY,rD,tT,wN,sP,wO,BC,V0,x0,h5];refine ao.pure hc ?_;simp[r1,r2];exact .pure _ (by simp)
  have hown:∀K:Hp,K.get 4=some (.cells 5 [] (jd.cells (t.name,t)) .nil)->dU (λ c=>if c=4 then K.get c else none) (.sl 4 0 1 5) (jd.ds [(t.name,t)]):=λ K hK=>by
   have hl:jd.ds [(t.name,t)]=.ds (jd.cells (t.name,t)) 1 5:=by simp[al.ds,al.dF]
   rw[hl];exact .sl _ _ _ _ 5 [] (jd.cells (t.name,t)) .nil (jd.cells (t.name,t)) _ (by simpa using hK) (by simp) (aN.pure (by simp))
  by_cases h7:x.kind=7
  ·have hr:R=xG t x:=by
    rw[<-hR];unfold gu;rw[hT,if_pos ⟨h7,rfl⟩]
   simp[aE.ok,h7]at ok
   have hc:=O7 x hx.sets (λ y hy=>⟨hx.set y hy,by
    have:=ok.2 y hy;simp only[ku.ok,Bool.and_eq_true]at this;exact this.2⟩) hx.cond ok.1.2 t htc
   rw[<-hr,htv]at hc;simp[oY,rD,tT,wN,sP,wO,BC,Hm,Hl,VZ,x0,h7,aU];generalize hK:Tr.put _ 4 _=K4;have x4:K4.get 4=some (.cells 5 [] (jd.cells (t.name,t)) .nil):=by rw[<-hK];simp[tG,aU]
   have x2:K4.get 2=some (.cells 25 [] (br 0) .nil):=by rw[<-hK];simp[br]
   clear hK;refine ao.zs (eH.one .nil K4 4) (vs':=[.agg x.cells 31,.agg (aG.cells t) 4,jd.ds [(t.name,t)]]) (by simp[aU];exact .inr (hown K4 x4)) (ao.pure hc ?_);simp only[br]at x2;simp[r1,r2,x2];exact .pure _ (by simp)
  have h62:x.kind=6∨x.kind=2:=by omega
  have hr:R=({kind:=0,table:=t,cond:=(pO [t.name] [t] x.cond).1},(pO [t.name] [t] x.cond).2):=by
   rw[<-hR];unfold gu;rw[hT,if_neg (by omega),if_pos ⟨h62,rfl⟩]
  have hcm:x.cond.maybe=true:=by
   rcases h62 with h6 | h2
   ·simp[aE.ok,h6]at ok;exact ok.2
   have h:=hm;unfold aE.may at h;rw[Bool.and_eq_true]at h;have h2':=h.2;have hc:x.cut.cond=jy:=by simp[aE.cut,h2,aE.z]
   unfold s7 at h2';rw[hc]at h2';simp only[Bool.and_eq_true,tH,decide_eq_true_eq]at h2';have h3:=h2'.2.2.2.2.2.2.2.1.2;simp[jy,Ex.op]at h3;simp[Ex.maybe,h3]
  have hc:=aa9 (.own htc) x.cond hx.cond hcm;have hc:ai pG 91 [jd.ds [(t.name,t)],.agg x.cond.cells 8] (.bg [dz.ds (pO [t.name] [t] x.cond).1,.int .i64 (pO [t.name] [t] x.cond).2]):=hc;rw[hr];simp[oY,rD,tT,wN,sP,wO,BC,Hm,Hl,VY,x0,h1,h9,h8,h4,h3,h5,h7,aU,aE.cc];generalize hK:Tr.put _ 4 _=K4;have x4:K4.get 4=some (.cells 5 [] (jd.cells (t.name,t)) .nil):=by rw[<-hK];simp[tG,aU]
  have x2:K4.get 2=some (.cells 25 [] (br 0) .nil):=by rw[<-hK];simp[br]
  have x3:K4.get 3=some (.cells 4 [] (aG.cells t) .nil):=by rw[<-hK];simp[aU]
  clear hK;refine ao.zs (eH.one .nil K4 4) (vs':=[jd.ds [(t.name,t)],.agg x.cond.cells 8]) (by simp;exact .inr (hown K4 x4)) (ao.pure hc ?_);simp only[br]at x2;rw[aU]at x3;simp[VX,x2,x3];refine C0 ?_;simp[ew.cells,jb.zero]
theorem aaE {b c:ew×Int}(h:jX (dJ b)=jX (dJ c)):(b.2≠0->dJ c=(jU,b.2))/\(b.2=0->dJ c=({b.1 with kind:=c.1.kind},0)):=by
 obtain⟨b,f⟩:=b;obtain⟨c,g⟩:=c
 by_cases hf:f=0
 ·subst hf
  by_cases hg:g=0
  ·subst hg;rw[eu,eu]at h;refine⟨λ e=>absurd rfl e,λ _=>?_⟩;rw[eu];simp[jX]at h;obtain⟨bk,b1,b2,b3,b4,b5,b6,b7,b8,b9,b10,b11,b12,b13,b14,b15,b16⟩:=b;obtain⟨ck,c1,c2,c3,c4,c5,c6,c7,c8,c9,c10,c11,c12,c13,c14,c15,c16⟩:=c;simp at h ⊢;simp[h]
  rw[eu,cf hg]at h;have:=congrArg Prod.snd h;simp[jX]at this;exact absurd this.symm hg
 by_cases hg:g=0
 ·subst hg;rw[eu,cf hf]at h;have:=congrArg Prod.snd h;simp[jX]at this;exact absurd this hf
 rw[cf hf,cf hg]at h;have:=congrArg Prod.snd h;simp[jX]at this;subst this;exact⟨λ _=>cf hf,λ e=>absurd e hf⟩
theorem Pw (s:bD) (hs:s.dE) (hr:s.ZM) (x:aE) (hx:x.sm):ai pG 6 [cw.av s,x.av] (.bg [.agg (dZ s x).1.cells 25,.int .i64 (dZ s x).2]):=by
 refine bf c6 (by simp) (by simp) (by simp[A6]) λ F hF=>?_;have h23:=anR s hs hr;have Oe:=anQ x hx;have hsc:cw.av s=.agg (cw.cells s) 2:=rfl;have hxc:x.av=.agg x.cells 31:=Eq.trans rfl rfl;have x0:=λ h=>x.c0' h;rw[hsc]at h23;rw[hxc]at Oe hF;rw[hsc]at hF
 by_cases ho:eY s
 ·simp only[ho,decide_true]at h23
  by_cases hm:x.may=true
  ·rw[hm]at Oe;have hb:dZ s x=dJ (bM s x):=by simp[dZ,ho,hm]
   have h25:=abA s x ⟨hs,hx,ho,hm⟩;obtain⟨e1,e2⟩:=aaE (Se s x ho hm);rw[Ow]at e2;rw[<-hb]at e1 e2;rw[hsc]at h25;generalize gu s x=X at *;generalize dZ s x=R at *;obtain⟨b,f⟩:=X;simp only at e1 e2 h25;have r1:=b.one;have r2:b.cells.length=25:=rfl;simp[A6,B6,ab1,ab0,hF];refine ao.pure h23 ?_;simp;refine ao.pure Oe ?_;simp[aqF];refine ao.pure h25 ?_
   by_cases hf:f=0
   ·have hR:=e2 hf;subst hR hf;simp only[ew.cells];simp[akI,aqD,aqC,x0];exact .pure _ (by simp)
   have hR:=e1 hf;subst hR;simp[r1,r2,akI,aqE,hf];exact kQ
  have hb:dZ s x=(jU,1):=by simp[dZ,hm]
  have hm':x.may=false:=by simpa using hm
  rw[hm']at Oe;rw[hb];simp[A6,B6,ab1,ab0,hF];refine ao.pure h23 ?_;simp;refine ao.pure Oe ?_;simp[akJ];exact kQ
 have hb:dZ s x=(jU,1):=by simp[dZ,ho]
 simp only[ho,decide_false]at h23;rw[hb];simp[A6,B6,ab1,ab0,hF];refine ao.pure h23 ?_;simp[akJ];exact kQ
theorem aiG (l:List jb)(hl:l.length<=lim)(hc:∀x∈l,x.ae.length<=lim):ai pG 32 [bC.ds l,bC.ds l] (.bool true):=by
 unfold lim at hl;refine bf c32 (by simp) (by simp) (by simp[A32]) λ F hF=>?_;simp[A32,B32,agD,agC,agB,hF,al.ag];refine au.of (λ q F K n ms=>∃i,q=l.length - i/\i<=l.length/\F.get 0=some (bC.ds l)/\F.get 1=some (bC.ds l)/\F.get 5=some (.int .i64 (i:Int))/\ms=[]) l.length ⟨0,by simp[hF]⟩ ?_;clear hF F;rintro q F K n ms ⟨i,rfl,hi,f0,f1,f5,rfl⟩
 by_cases hlt:i<l.length
 ·have hx:=bC.ix (ik:=.i64) hlt;have hld:=λ H=>bC.gM l[i] (bC.l (l.drop (i+1))) H;have h27:=Po l[i] (hc _ (getElem_mem hlt));simp[Zw,VL,f0,f5,al.ag,hlt];simp only[agA,cH];refine bY.of (iN (l:=[(27,[bC.av l[i],bC.av l[i]],λ H n=>.mk (.bool true) H n)]) ?_) ?_
  ·intro y hy;simp only[mem_cons,not_mem_nil,or_false]at hy;subst hy;exact eX h27
  simp[aa,f0,f1,f5,hx,hld];rw[fA];simp[agz,aa,f5,ah i (by omega)];exact⟨_,by omega,i+1,rfl,hlt,by simp[f0],by simp[f1],by omega⟩
 obtain rfl:i=l.length:=by omega
 simp[Zw,VL,agy,f0,f5,al.ag];exact .pure _ (by simp)
theorem am2 (s:bD)(hs:s.dE):ai pG 8 [cw.av s,cw.av s] (.bool true):=by
 have ht:=hs.t;unfold lim at ht;have h32:=aiG s.indexes hs.i hs.ic;refine bf c8 (by simp) (by simp) (by simp[A8]) λ F hF=>?_;simp[A8,B8,aqs,aqr,aqp,hF,al.av,cC,al.ag];refine au.of (λ q F K n ms=>∃i,q=s.tables.length - i/\i<=s.tables.length/\F.get 2=some (.ptr 0 0)/\F.get 3=some (.ptr 1 0)/\F.get 5=some (.int .i64 (i:Int))/\K.get 0=some (.cells 2 [] [aG.ds s.tables,bC.ds s.indexes] .nil)/\K.get 1=some (.cells 2 [] [aG.ds s.tables,bC.ds s.indexes] .nil)/\ms=[]) s.tables.length ⟨0,by simp⟩ ?_;clear hF F;rintro q F K n ms ⟨i,rfl,hi,f2,f3,f5,k0,k1,rfl⟩
 by_cases hlt:i<s.tables.length
 ·have hx:=aG.ix (ik:=.i64) hlt;have hld:=λ H=>aG.gM s.tables[i] (aG.l (s.tables.drop (i+1))) H;have h26:=Fx s.tables[i] (hs.tc _ (getElem_mem hlt));simp[aln,akF,f2,f5,k0,al.ag,hlt];simp only[aqo,cH];refine bY.of (iN (l:=[(26,[aG.av s.tables[i],aG.av s.tables[i]],λ H n=>.mk (.bool true) H n)]) ?_) ?_
  ·intro y hy;simp only[mem_cons,not_mem_nil,or_false]at hy;subst hy;exact eX h26
  simp[aa,f2,f3,f5,k0,k1,hx,hld];rw[fA];simp[aqn,aa,f5,ah i (by omega)];exact⟨_,by omega,i+1,rfl,hlt,by simp[f2],by simp[f3],by omega,k0,k1⟩
 obtain rfl:i=s.tables.length:=by omega
 simp[aln,akF,aqm,f2,f3,f5,k0,k1,al.ag];refine ao.pure h32 ?_;simp;exact .pure _ (by simp)
theorem qX (ns:List (List Nat))(ts:List aR){e:Ex}(err:Int)(h:e.sz<=lim):(cQ ns ts e err).1.length<=lim/\∀y∈(cQ ns ts e err).1,y.sz<=lim:=by
 unfold cQ
 split
 ·simp
 have h1:=Ex.wq ns ts e err;have h2:=(Ex.gR _ (e.bd ns ts err).1 (Nat.le_refl _)).1;have h3:=Ex.jf (e.bd ns ts err).1.split;exact⟨by simp only;omega,λ y hy=>by have hy':y∈(e.bd ns ts err).1.split:=hy;have:=Ex.lr hy';omega⟩
theorem Ql (ns:List (List Nat))(ts:List aR)(l:List Src)(h:∀x∈l,x.cond.sz<=lim)(err:Int):∀i,i<=l.length->(gB ns ts l i err).1.length=i/\∀r∈(gB ns ts l i err).1,r.length<=lim/\∀y∈r,y.sz<=lim
 | 0,_=>by simp[gB]
 | i + 1,hi=>by
  obtain⟨a1,a2⟩:=Ql ns ts l h err i (by omega);rw[gB];refine⟨by simp[a1],λ r hr=>?_⟩
  rcases mem_append.1 hr with hr | hr
  ·exact a2 r hr
  rw[mem_singleton]at hr;rw[hr];exact qX _ _ _ (by rw[mL (by omega)];exact h _ (getElem_mem (by omega)))
theorem FN (ns:List (List Nat))(ts:List aR):∀(l:List fK)(err:Int),(∀x∈l,x.e.sz<=lim)->∀y∈(eb ns ts l err).1,y.sz<=lim
 | [],_,_=>by simp[eb]
 | x::r,err,h=>by
  intro y hy;rw[eb]at hy
  rcases mem_cons.1 hy with rfl | hy
  ·exact Nat.le_trans (Ex.wq ns ts x.e err) (h x (by simp))
  exact FN ns ts r _ (λ z hz=>h z (by simp[hz])) y hy
theorem N7 (ns:List (List Nat))(ts:List aR)(q:aY)(err:Int)(h:∀x∈q.items,x.e.sz<=lim)(hk:(aj ts).length+q.items.length<=lim):(aT ns ts q err).1.length<=lim/\(∀y∈(aT ns ts q err).1,y.sz<=lim)/\(aT ns ts q err).2.2.1.length<=lim:=by
 unfold aT
 split
 ·have h1:=uo ns ts q.items (keep (keep err 200 (decide (ts=[]))) 3 (decide ((16:Int)<((aj ts).length:Int))));refine⟨by simp[h1];omega,λ y hy=>?_,by simp[h1];omega⟩
  rcases mem_append.1 hy with hy | hy
  ·obtain⟨k,_,rfl⟩:=mem_map.1 hy;simp[Gp,Ex.sz,Ex.mB,lim]
  exact FN ns ts q.items _ h y hy
 have h1:=uo ns ts q.items err;exact⟨by simp[h1];omega,λ y hy=>FN ns ts q.items _ h y hy,by simp[h1];omega⟩
theorem Ny (s:bD)(hs:s.dE)(q:aY)(qf:q.dE s):(cJ s q 8 0).1.sm:=by
 have hz:∀k:Int,ew.sm {kind:=k}:=λ k=>⟨by simp[aR.zero],by simp[jb.zero],by simp,by simp,by simp,by simp,by simp,by simp,by simp,by simp,by simp,by simp,by simp,by simp,by simp⟩;unfold cJ
 split
 ·exact hz 8
 have ho:=Ql (q.ab.map Src.nm) (q.ab.map s.tb) q.ab (λ x hx=>(qf.sr x hx).1) 0 q.ab.length (Nat.le_refl _);generalize gB (q.ab.map Src.nm) (q.ab.map s.tb) q.ab q.ab.length 0=O at *;have hi:=N7 (q.ab.map Src.nm) (q.ab.map s.tb) q O.2 (λ x hx=>(qf.it x hx).1) qf.k;have hn:=pK (q.ab.map Src.nm) (q.ab.map s.tb) q O.2;have hk:=qf.k;generalize aT (q.ab.map Src.nm) (q.ab.map s.tb) q O.2=I at *;have hc:=qX (q.ab.map Src.nm) (q.ab.map s.tb) I.2.2.2 qf.cz;have hl:=qf.s;refine⟨by simp[aR.zero],by simp[jb.zero],by simp,by simp,by simp,by simp,by simp only;omega,ho.2,hc,⟨hi.1,hi.2.1⟩,by simp only;omega,hi.2.2,?_,by simpa using hl,λ t ht=>?_⟩
 ·simp only[u9];exact qf.o
 obtain⟨x,_,rfl⟩:=mem_map.1 ht;exact cE (Q:=λ t:aR=>t.ae.length<=lim) (by simp[aR.zero]) hs.tc
theorem Jy (ae:List eW)(r:List Ex)(e:Int)(h:∀y∈r,y.sz<=lim):∀i,i<=r.length->∀y∈(dY ae r i e).1,y.sz<=lim
 | 0,_=>by simp[dY]
 | i + 1,hi=>by
  intro y hy;rw[dY]at hy
  rcases mem_append.1 hy with hy | hy
  ·exact Jy ae r e h i (by omega) y hy
  rw[mem_singleton]at hy;rw[hy,AX (by omega)];exact Nat.le_trans (Ex.wq _ _ _ _) (h _ (getElem_mem (by omega)))
theorem JV (t:aR):∀(rs:List (List Ex))(e:Int),(∀r∈rs,r.length<=lim/\∀y∈r,y.sz<=lim)->(ij t rs e).1.length<=rs.length/\∀r∈(ij t rs e).1,r.length<=lim/\∀y∈r,y.sz<=lim
 | [],_,_=>by simp[ij]
 | r :: rs,e,h=>by
  rw[ij]
  split
  ·simp
  obtain⟨a1,a2⟩:=JV t rs (dY t.ae r r.length (keep e 204 (!decide (r.length=t.ae.length)))).2 λ z hz=>h z (by simp[hz]);have hr:=h r (by simp);refine⟨by simp only[length_cons];omega,λ z hz=>?_⟩
  rcases mem_cons.1 hz with rfl | hz
  ·exact⟨by rw[qK];exact hr.1,Jy t.ae r _ hr.2 _ (Nat.le_refl _)⟩
  exact a2 z hz
theorem Jr (t:aR):∀(l d:List ku) (N:List Ex) (e:Int),(∀y∈l,y.e.sz<=lim)->(∀z∈N,z.sz<=lim)->(gQ t d l N e).1.length=N.length/\∀z∈(gQ t d l N e).1,z.sz<=lim
 | [],d,N,e,_,hN=>⟨rfl,hN⟩
 | y :: r,d,N,e,h,hN=>by
  rw[gQ]
  split
  ·exact⟨rfl,hN⟩
  have:=Jr t r (d++[y]) (N.set (bS t y.name).toNat (nf [t.name] [t] y.e (mr t.ae (bS t y.name).toNat).kind (keep (keep e 201 (decide (bS t y.name<0))) 205 (d.any λ z=>decide (z.name=y.name)))).1) (nf [t.name] [t] y.e (mr t.ae (bS t y.name).toNat).kind (keep (keep e 201 (decide (bS t y.name<0))) 205 (d.any λ z=>decide (z.name=y.name)))).2 (λ z hz=>h z (by simp[hz])) λ z hz=>by
   rcases mem_or_eq_of_mem_set hz with hz | rfl
   ·exact hN z hz
   exact Nat.le_trans (Ex.wq _ _ _ _) (h y (by simp))
  simpa using this
theorem Sb (k:Nat):∀z∈cA k,z.sz<=lim:=λ z hz=>by
 obtain⟨i,_,rfl⟩:=mem_map.1 hz;simp[Gp,Ex.sz,Ex.mB,lim]
theorem Bm (k:Int):ew.sm {kind:=k}:=⟨by simp[aR.zero],by simp[jb.zero],by simp,by simp,by simp,by simp,by simp,by simp,by simp,by simp,by simp,by simp,by simp,by simp,by simp⟩
theorem abB (s:bD)(hs:s.dE)(x:aE)(hx:x.sm)(ho:eY s)(hm:x.may=true):(bM s x).1.sm:=by
 have ok:=aE.Qt hm;have htc:∀nm,(s.named nm).1.ae.length<=lim:=λ nm=>cE (Q:=λ t:aR=>t.ae.length<=lim) (by simp[aR.zero,lim]) hs.tc;have ht2:∀i,(s.table i).1.ae.length<=lim:=λ nm=>cE (Q:=λ t:aR=>t.ae.length<=lim) (by simp[aR.zero,lim]) hs.tc;have hi2:∀i,(s.index i).1.ae.length<=lim:=λ nm=>cE (Q:=λ t:jb=>t.ae.length<=lim) (by simp[jb.zero,lim]) hs.ic;have hbt:∀(k:Int) (t:aR) (cd:List Ex),t.ae.length<=lim->(cd.length<=lim/\∀y∈cd,y.sz<=lim)->ew.sm {kind:=k,table:=t,cond:=cd}:=λ k t cd h1 h2=>⟨h1,by simp[jb.zero],by simp,by simp,by simp,by simp,by simp,by simp,h2,by simp,by simp,by simp,by simp,by simp,by simp⟩;unfold bM
 split
 ·exact⟨by simp[cY,aR.zero],by simp[cY,jb.zero],hx.ae,by simp[cY],by simp[cY],by simp[cY],by simp[cY],by simp[cY],by simp[cY],by simp[cY],by simp[cY],by simp[cY],by simp[cY],by simp[cY],by simp[cY]⟩
 split
 ·exact hbt _ _ [] (htc _) (by simp)
 split
 ·exact⟨htc _,by simp only[indexB,length_map];exact hx.on,by simp[indexB],by simp[indexB],by simp[indexB],by simp[indexB],by simp[indexB],by simp[indexB],by simp[indexB],by simp[indexB],by simp[indexB],by simp[indexB],by simp[indexB],by simp[indexB],by simp[indexB]⟩
 split
 ·exact⟨ht2 _,hi2 _,by simp[dB],by simp[dB],by simp[dB],by simp[dB],by simp[dB],by simp[dB],by simp[dB],by simp[dB],by simp[dB],by simp[dB],by simp[dB],by simp[dB],by simp[dB]⟩
 split
 ·have h:=JV (s.named x.table).1 x.rows (keep 0 200 (!(s.named x.table).2)) hx.row;exact⟨htc _,by simp[cV,jb.zero],by simp[cV],Nat.le_trans h.1 hx.rows,h.2,by simp[cV],by simp[cV],by simp[cV],by simp[cV],by simp[cV],by simp[cV],by simp[cV],by simp[cV],by simp[cV],by simp[cV]⟩
 split
 ·unfold jB
  split
  ·exact hbt _ _ [] (htc _) (by simp)
  exact hbt _ _ _ (htc _) (qX _ _ _ hx.cond)
 split
 ·unfold gO
  split
  ·exact hbt _ _ [] (htc _) (by simp)
  have h:=Jr (s.named x.table).1 x.sets [] (cA (s.named x.table).1.ae.length) (keep 0 200 (!(s.named x.table).2)) hx.set (Sb _);rw[sH]at h;unfold zP;have h1:(gQ (s.named x.table).1 [] x.sets (cA (s.named x.table).1.ae.length) (keep 0 200 (!(s.named x.table).2))).1.length<=lim:=by rw[h.1];exact htc _
  split
  ·exact⟨htc _,by simp[jb.zero],by simp,by simp,by simp,⟨h1,h.2⟩,by simp,by simp,qX _ _ _ hx.cond,by simp,by simp,by simp,by simp,by simp,by simp⟩
  exact⟨htc _,by simp[jb.zero],by simp,by simp,by simp,⟨h1,h.2⟩,by simp,by simp,by simp,by simp,by simp,by simp,by simp,by simp,by simp⟩
 split
 ·rename_i h8;simp[aE.ok,h8]at ok;have hk8:∀k e,(cJ s x.q k e).1={ (cJ s x.q 8 e).1 with kind:=k}:=λ k e=>by unfold cJ;split<;>rfl
  rw[hk8];have h:=Ny s hs x.q (aY.AU ho hx ok);exact⟨h.t,h.x,h.c,h.r,h.rz,h.nw,h.o,h.oz,h.cd,h.it,h.nm,h.k,h.od,h.f,h.fc⟩
 exact Bm _
theorem Sg (s:bD)(hs:s.dE)(x:aE)(hx:x.sm):(dZ s x).1.sm:=by
 unfold dZ
 split
 ·rename_i h;have:=abB s hs x hx h.1 h.2;unfold dJ
  split
  ·exact this
  exact Bm 0
 exact Bm 0
theorem Jv {F F2:Fr}{K:Hp}{m:Nat}{va x:AV}{l r cs:List AV}{len sa k sz:Nat}(hF:∀(t:Nat) v,F2.get t=some v->F.get t=some v) (ha:ar K m va (l++x::r) len sa) (h1:0<len) (hx:ar K m x cs k sz) (hz:0<sz) (hcs:aL cs) (hd:∀c,blk va=some c->blk x≠some c):
  ∃h K2,eH h F K F2 K2/\ar K2 m va (l++.ds cs k sz::r) len sa/\∀c,blk va≠some c->blk x≠some c->K2.get c=K.get c:=by
 have hfz:∀h:Hf,(∀c,blk x=some c->h c=K.get c)->dU h x (.ds cs k sz):=by
  intro h hh;obtain⟨s',rfl⟩:∃s',sz=s'+1:=⟨sz - 1,by omega⟩;obtain⟨h0,⟨rfl,rfl⟩ | ⟨b,kk,rfl,hb,hk,ho⟩⟩:=hx
  ·have:cs=[]:=by simpa using h0
   subst this;exact .nil _
  obtain⟨u,z,bs,t,rfl,hg⟩:=ho.gJ (o:=0) (c:=k*(s'+1)) (by omega);refine .sl _ _ _ _ _ _ _ _ _ _ ((hh b rfl).trans hk) hg ?_;rw[drop_zero,take_of_length_le (by omega)];exact aN.pure hcs
 obtain⟨h0,⟨_,h1⟩ | ⟨b,kb,rfl,hb,hk,ho⟩⟩:=ha
 ·omega
 have hxb:blk x≠some b:=hd b rfl;obtain⟨u,z,bs,t,rfl,hu,hg,hi⟩:=ho
 refine⟨λ c=>if blk x=some c then K.get c else none,(match blk x with
  | some c=>K.put c none
  | none=>K).put b (some (.cells u [] (l++AV.ds cs k sz::r) .nil)),⟨λ c y hc=>?_,λ c hc=>?_,λ t v hv=>⟨v,hF t v hv,.inl rfl⟩,λ c y hc=>?_⟩,⟨by simpa using h0,.inr ⟨b,.cells u [] (l++AV.ds cs k sz::r) .nil,rfl,hb,by simp,fe.list (by simpa using hu)⟩⟩,λ c h3 h4=>?_⟩
 ·split at hc
  ·exact hc
  cases hc
 ·have hc:(if blk x=some c then K.get c else none)≠none:=hc
  by_cases he:blk x=some c
  ·have hcb:c≠b:=λ e=>hxb (by rw[he,e]);rw[he];simp[hcb]
  simp[he]at hc
 ·by_cases hcb:c=b
  ·subst hcb;simp at hc;subst hc;refine⟨_,hk,.inr ⟨u,z,bs,t,_,rfl,rfl,by simpa using hu.symm,λ i v' hv=>?_⟩⟩
   by_cases hil:i<l.length
   ·rw[getElem?_append_left hil]at hv;exact⟨v',by rw[hg,getElem?_append_left hil];exact hv,.inl rfl⟩
   rw[getElem?_append_right (by omega)]at hv
   rcases Nat.eq_zero_or_pos (i - l.length)with e | e
   ·rw[e]at hv;simp at hv;subst hv;refine⟨x,by rw[hg,getElem?_append_right (by omega),e];simp,.inr (hfz _ λ c hc=>if_pos hc)⟩
   obtain⟨j,hj⟩:∃j,i - l.length=j+1:=⟨i - l.length - 1,by omega⟩;rw[hj]at hv;simp at hv;exact⟨v',by rw[hg,getElem?_append_right (by omega),hj];simpa using hv,.inl rfl⟩
  rw[Tr.get_put,if_neg hcb]at hc;refine⟨y,?_,.inl rfl⟩
  cases hbx:blk x with
  | none=>rw[hbx]at hc;exact hc
  | some d =>
   rw[hbx]at hc;simp only[Tr.get_put]at hc
   split at hc
   ·cases hc
   exact hc
 have hc:c≠b:=λ e=>h3 (by rw[e];rfl);rw[Tr.get_put,if_neg hc]
 cases hbx:blk x with
 | none=>rfl
 | some d =>
  have:c≠d:=λ e=>h4 (by rw[hbx,e]);simp[this]
theorem app0 {α:Type}{s':Nat}(E:al α (s'+1))(l:List α)(hl:l.length<=lim){P:Program}{K:Hp}{b jV:Nat}{F:Fr}{Q:QA}{pd:Pd}{r:List (Option GO)}(hby:jV<=4096)
  (hgo:∀v H' n',b+1<=n'->ar H' n' v (E.l l) l.length (s'+1)->(∀c,blk v=some c->b<=c)->(∀c,c<b->H'.get c=K.get c)->fj P r (pd.f v F) H' n' [] Q):
  Je (lU (s'+1) jV (b+1) (.sl b 0 0 (s'+1)) (E.ds l) (K.put b (some (.cells 0 [] [] .nil)))) pd r P F (K.put b (some (.cells 0 [] [] .nil))) (b+1) [] Q:=by
 unfold lim at hl;have ho:ar (K.put b (some (.cells 0 [] [] .nil))) (b+1) (.sl b 0 0 (s'+1)) [] 0 (s'+1):=⟨by simp,.inr ⟨b,_,rfl,by omega,(Tr.get_put _ _ _ _).trans (if_pos rfl),fe.list rfl⟩⟩
 by_cases h0:l.length=0
 ·have hn:l=[]:=length_eq_zero_iff.1 h0;subst hn
  have e2:lU (s'+1) jV (b+1) (.sl b 0 0 (s'+1)) (E.ds []) (K.put b (some (.cells 0 [] [] .nil)))=.val (.sl b 0 0 (s'+1)):=by
   unfold Go.Abs.lU;simp[al.ds,tK]
  rw[e2];simp;refine hgo _ _ _ (Nat.le_refl _) ho (λ c hc=>by simp at hc;omega) λ c hc=>?_;simp[show ¬c=b by omega]
 refine ar.jr (k:=l.length) (new:=E.l l) ho (by simp[al.ds]) (by simp[al.ds]) (by simp[al.anZ]) (by omega) (by omega) (by unfold big;omega) hby (by simp) λ H' o' g=>?_;rw[Nat.zero_add]at o' ⊢;refine hgo _ _ _ (by omega) (by simpa using o') (λ c hc=>by simp at hc;omega) λ c hc=>?_;rw[g c (by omega) (by simp;omega)];simp[show ¬c=b by omega]
structure CpF (F:Fr):Prop where
 f1:F.get 1=some (.ptr 0 0)
 f2:F.get 2=some (.ptr 1 0)
 f3:F.get 3=some (.ptr 2 0)
structure CpM (s:bD)(i j:Nat)(vt vi:AV)(K:Hp)(m:Nat):Prop where
 hm:3<=m
 k0:K.get 0=some (.cells 2 [] (cw.cells s) .nil)
 k1:K.get 1=some (.cells 2 [] [.ak (.slice none 0 0),.ak (.slice none 0 0)] .nil)
 k2:K.get 2=some (.cells 2 [] [vt,vi] .nil)
 ot:ar K m vt (aG.l (s.tables.take i)) i 4
 oi:ar K m vi (bC.l (s.indexes.take j)) j 6
 dt:∀c,blk vt=some c->3<=c
 di:∀c,blk vi=some c->3<=c/\blk vt≠some c
theorem aj2 (s:bD) (hs:s.dE) (F:Fr) (K:Hp) (m:Nat) (Q:QA) (hF:CpF F) (f4:F.get 4=some (.int .i64 0)) (M:CpM s 0 0 (.ak (.slice none 0 0)) (.ak (.slice none 0 0)) K m)
  (hQ:∀vt F K m,CpF F->CpM s s.tables.length 0 vt (.ak (.slice none 0 0)) K m->Q .normal F K m []):au ab' pG F K m [] (bX 0 Q):=by
 have ht:=hs.t;unfold lim at ht;refine au.ofZ (λ q F K m ms=>∃(i:Nat) (vt:AV),q=s.tables.length - i/\i<=s.tables.length/\CpF F/\F.get 4=some (.int .i64 (i:Int))/\CpM s i 0 vt (.ak (.slice none 0 0)) K m/\ms=[]) s.tables.length (Zs.refl ⟨0,_,by simp,by simp,hF,f4,M,rfl⟩) ?_;clear hF f4 M F K m;rintro q1 F K m ms ⟨i,vt,rfl,hi,⟨f1,f2,f3⟩,f4,M,rfl⟩;have k0:=M.k0;rw[cC]at k0
 by_cases hlt:i<s.tables.length
 ·have hZ:=aG.ix (ik:=.i64) hlt;have hld:=λ H=>aG.gM s.tables[i] (aG.l (s.tables.drop (i+1))) H;have htc:=hs.tc _ (getElem_mem hlt);unfold lim at htc;simp[ab',akQ,ari,f1,f4,k0,al.ag,hlt,hZ,hld,al.av];generalize hK1:Tr.put (Tr.put K m _) m _=K1;have g1:∀c,c<m->K1.get c=K.get c:=λ c hc=>by rw[<-hK1];simp[dj hc]
  have x1:K1.get m=some (.cells 4 [] (aG.cells s.tables[i]) .nil):=by rw[<-hK1];simp
  clear hK1;rw[aU]at x1;simp[arh,x1];refine app0 aW _ (by unfold lim;omega) (by omega) λ v K2 m2 hm2 hv dv g2=>?_;have x2:=(g2 m (by omega)).trans x1;have hone:=hv.dO;obtain⟨hl1,hl2⟩:=hv.oK;have b2:∀c,c<m->K2.get c=K.get c:=λ c hc=>(g2 c (by omega)).trans (g1 c hc);have hm:=M.hm;have k22:=(b2 2 (by omega)).trans M.k2;have hto:=M.ot.dO;have r_:=λ c h=>M.ot.aK (c:=c) h;simp[x2,hone,hl1,hl2,arf,f3,show ¬ 2=m by omega,k22];generalize hK3:Tr.put (Tr.put K2 m _) m2 _=K3;have g3:∀c,c≠m->c<m2->K3.get c=K2.get c:=λ c h1 h2=>by rw[<-hK3];simp[h1,dj h2]
  have x3:K3.get m2=some (.cells 4 [] [.int .u32 s.tables[i].id,.str s.tables[i].name,v,.int .u32 s.tables[i].head] .nil):=by rw[<-hK3];simp
  clear hK3;have ot3:ar K3 (m2+1) vt (aG.l (s.tables.take i)) i 4:=M.ot.frame (by omega) λ c hc=>(g3 c (by have:=r_ c hc;omega) (by have:=r_ c hc;omega)).trans (b2 c (r_ c hc));refine ar.jr (k:=1) (new:=[.int .u32 s.tables[i].id,.str s.tables[i].name,v,.int .u32 s.tables[i].head]) ot3 (aB x3) (by simp) (by simp) (by omega) (by omega) (by unfold big;omega) (by omega) (by simp[hone]) λ K4 o4 g4=>?_;have k24:=(g4 2 (by omega) λ h=>by have:=M.dt 2 h;omega).trans ((g3 2 (by omega) (by omega)).trans k22);simp[f3,k24,ard,f4,ah i (by omega)];generalize j8:Tr.put K4 2 _=K5;have g5:∀c,c≠2->K5.get c=K4.get c:=λ c hc=>by rw[<-j8];simp[hc]
  have x5:K5.get 2=some (.cells 2 [] [.sl (m2+1) 0 (i+1) 4,.ak (.slice none 0 0)] .nil):=by rw[<-j8];simp
  clear j8;generalize hF2:(Fp 4 _ _:Fr)=F2;have w1:F2.get 1=some (.ptr 0 0):=by rw[<-hF2];simp[f1]
  have w2:F2.get 2=some (.ptr 1 0):=by rw[<-hF2];simp[f2]
  have w3:F2.get 3=some (.ptr 2 0):=by rw[<-hF2];simp[f3]
  have w4:F2.get 4=some (.int .i64 ((i+1:Nat):Int)):=by rw[<-hF2];simp
  clear hF2;have bk:∀c,c<m->c≠2->blk vt≠some c->K5.get c=K.get c:=λ c h1 h2 h3=>(g5 c h2).trans ((g4 c (by omega) h3).trans ((g3 c (by omega) (by omega)).trans (b2 c h1)))
  have JG:ar K5 (m2+1+1) (.sl (m2+1) 0 (i+1) 4) ((aG.l (s.tables.take i)++[.int .u32 s.tables[i].id,.str s.tables[i].name])++v::[.int .u32 s.tables[i].head]) (i+1) 4:=by
   have:=o4.frame (H':=K5) (n':=m2+1+1) (by omega) λ c hc=>g5 c (by simp at hc;omega);simpa using this
  have ov5:ar K5 (m2+1+1) v (aW.l s.tables[i].ae) s.tables[i].ae.length 3:=hv.frame (by omega) λ c hc=>by
   have h1:=dv c hc;have h2:=hv.aK hc;exact(g5 c (by omega)).trans ((g4 c (by omega) λ h=>by have:=r_ c h;omega).trans (g3 c (by omega) h2))
  have nv:∀c,c<m->blk v≠some c:=λ c h1 h2=>by have:=dv c h2;omega
  obtain⟨hh,K6,hsh,Qu,g6⟩:=Jv (F:=F2) (F2:=F2) (λ t v hv=>hv) JG (by omega) ov5 (by omega) (by simp) (λ c hc hc2=>by
   have:=hv.aK hc2;simp at hc;omega)
  have na:∀c,c<m->blk (AV.sl (m2+1) 0 (i+1) 4)≠some c:=λ c h1 h2=>by simp at h2;omega
  have nt:∀c,c<3->blk vt≠some c:=λ c h1 h2=>by have:=M.dt c h2;omega
  refine⟨s.tables.length - (i+1),by omega,hh,F2,K6,hsh,i+1,rfl,hlt,⟨w1,w2,w3⟩,w4,⟨.sl (m2+1) 0 (i+1) 4,by omega,?_,?_,?_,?_,by simpa using ar.nil _ _ 6,λ c hc=>by simp at hc;omega,by simp⟩,rfl⟩
  ·exact(g6 0 (na 0 (by omega)) (nv 0 (by omega))).trans ((bk 0 (by omega) (by omega) (nt 0 (by omega))).trans M.k0)
  ·exact(g6 1 (na 1 (by omega)) (nv 1 (by omega))).trans ((bk 1 (by omega) (by omega) (nt 1 (by omega))).trans M.k1)
  ·exact(g6 2 (na 2 (by omega)) (nv 2 (by omega))).trans x5
  have e:aG.l (s.tables.take (i+1))=(aG.l (s.tables.take i)++[.int .u32 s.tables[i].id,.str s.tables[i].name])++.ds (aW.l s.tables[i].ae) s.tables[i].ae.length 3::[.int .u32 s.tables[i].head]:=by
   rw[take_add_one,getElem?_eq_getElem hlt,Option.toList,al.bo,al.dF,aU];simp[al.ds]
  rw[e];exact Qu
 obtain rfl:i=s.tables.length:=by omega
 simp[ab',akQ,f1,f4,k0,al.ag];exact hQ vt _ K m ⟨by simp[f1],by simp[f2],by simp[f3]⟩ M
end Go.Abs
