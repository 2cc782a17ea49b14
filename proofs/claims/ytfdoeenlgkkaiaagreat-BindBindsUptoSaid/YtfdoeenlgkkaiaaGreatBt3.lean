/- A part. -/
import Derived.Test.YtfdoeenlgkkaiaaGreatBdS
noncomputable section
namespace Go.Abs
open List
open Go.Proofs
open Classical
set_option maxRecDepth 100000
theorem aiq (s:List Nat):ai pG 99 [.str s] (.bool (decide (s∈iW))):=by
 by_cases h:s∈iW
 ·simpa[h]using ZT s h
 refine bf c99 (by simp) (by simp) (by simp[A99]) λ F hF=>?_;have h0:¬s=[97,110,100]:=λ e=>h (by simp[iW,e]);have h1:¬s=[97,115]:=λ e=>h (by simp[iW,e]);have h2:¬s=[98,101,103,105,110]:=λ e=>h (by simp[iW,e]);have h3:¬s=[98,111,111,108]:=λ e=>h (by simp[iW,e]);have h4:¬s=[98,121]:=λ e=>h (by simp[iW,e]);have h5:¬s=[99,111,109,109,105,116]:=λ e=>h (by simp[iW,e]);have h6:¬s=[99,114,101,97,116,101]:=λ e=>h (by simp[iW,e]);have h7:¬s=[100,101,108,101,116,101]:=λ e=>h (by simp[iW,e]);have h8:¬s=[100,101,115,99]:=λ e=>h (by simp[iW,e]);have h9:¬s=[100,105,115,116,105,110,99,116]:=λ e=>h (by simp[iW,e]);have h10:¬s=[100,114,111,112]:=λ e=>h (by simp[iW,e]);have h11:¬s=[102,97,108,115,101]:=λ e=>h (by simp[iW,e]);have h12:¬s=[102,114,111,109]:=λ e=>h (by simp[iW,e]);have Rp:¬s=[105,110,100,101,120]:=λ e=>h (by simp[iW,e]);have si:¬s=[105,110,115,101,114,116]:=λ e=>h (by simp[iW,e]);have F6:¬s=[105,110,116]:=λ e=>h (by simp[iW,e]);have h16:¬s=[105,110,116,111]:=λ e=>h (by simp[iW,e]);have DX:¬s=[105,115]:=λ e=>h (by simp[iW,e]);have h18:¬s=[106,111,105,110]:=λ e=>h (by simp[iW,e]);have h19:¬s=[108,105,109,105,116]:=λ e=>h (by simp[iW,e]);have h20:¬s=[110,111,116]:=λ e=>h (by simp[iW,e]);have h21:¬s=[110,117,108,108]:=λ e=>h (by simp[iW,e]);have h22:¬s=[111,110]:=λ e=>h (by simp[iW,e]);have h23:¬s=[111,114]:=λ e=>h (by simp[iW,e]);have Oe:¬s=[111,114,100,101,114]:=λ e=>h (by simp[iW,e]);have h25:¬s=[114,111,108,108,98,97,99,107]:=λ e=>h (by simp[iW,e]);have h26:¬s=[115,101,108,101,99,116]:=λ e=>h (by simp[iW,e]);have h27:¬s=[115,101,116]:=λ e=>h (by simp[iW,e]);have h28:¬s=[116,97,98,108,101]:=λ e=>h (by simp[iW,e]);have h29:¬s=[116,101,120,116]:=λ e=>h (by simp[iW,e]);have h30:¬s=[116,114,117,101]:=λ e=>h (by simp[iW,e]);have h31:¬s=[117,110,105,113,117,101]:=λ e=>h (by simp[iW,e]);have h32:¬s=[117,112,100,97,116,101]:=λ e=>h (by simp[iW,e]);have h33:¬s=[118,97,108,117,101,115]:=λ e=>h (by simp[iW,e]);have h34:¬s=[119,104,101,114,101]:=λ e=>h (by simp[iW,e]);simp[A99,B99,ado,adn,adm,adl,adk,adj,adi,adh,adg,adf,S9,S8,S6,S0,SZ,SY,SX,SV,SU,SS,SR,SQ,SP,SN,SL,SK,SJ,SI,SH,SG,SF,SE,SD,SC,SB,SA,Sz,Sy,Sx,hF,h0,h1,h2,h3,h4,h5,h6,h7,h8,h9,h10,h11,h12,Rp,si,F6,h16,DX,h18,h19,h20,h21,h22,h23,Oe,h25,h26,h27,h28,h29,h30,h31,h32,h33,h34];exact .bool (by simp[h])
def aD (s:List Nat):Prop:=cK s/\s∉iW
theorem eh (s:List Nat):ai pG 46 [.str s] (.bool (decide (aD s))):=by
 refine bf c46 (by simp) (by simp) (by simp[A46]) λ F hF=>?_;unfold aD;simp[A46,B46,af_,af9,hF];refine ao.pure (Am s) ?_
 by_cases h:cK s
 ·simp[h,hF];refine ao.pure (aiq s) ?_;simp;exact .bool (by simp)
 simp[h];exact .bool (by simp)
theorem uK (a b:Int):ai pG 47 [.int .i64 a,.int .i64 b] (.bool (decide (1<=a/\a<=b))):=by
 refine bf c47 (by simp) (by simp) (by simp[A47]) λ F hF=>?_
 by_cases h:1<=a
 ·simp[A47,B47,Vw,Vv,hF,h];exact .bool (by simp)
 simp[A47,B47,Vw,Vv,hF,h];exact .bool (by simp)
def fG (l:List eW):Prop:=l≠[]/\l.length<=16/\∀i (h:i<l.length),cK l[i].name/\(1<=l[i].kind/\l[i].kind<=3)/\∀j (hj:j<i),(l[j]'(by omega)).name≠l[i].name
theorem anP (l:List eW):ai pG 40 [aW.ds l] (.bool (decide (fG l))):=by
 refine bf c40 (by simp) (by simp) (by simp[A40]) λ F hF=>?_
 by_cases h0:l=[]
 ·have:¬fG l:=λ h=>h.1 h0;simp[A40,B40,La,KZ,hF,al.ag,h0,VB];exact .bool (by subst h0;simp[this])
 by_cases h16:l.length<=16
 ·simp[A40,B40,La,KZ,hF,al.ag,h0,show ¬(16:Int)<(l.length:Int) by omega,agm];refine au.of (λ t F K n ms=>∃i,t=l.length - i/\i<=l.length/\F.get 0=some (aW.ds l)/\F.get 15=some (aW.ds l)/\F.get 16=some (.int .i64 (l.length:Int))/\F.get 17=some (.int .i64 (i:Int))/\ms=[]/\∀k (h:k<l.length),k<i->cK l[k].name/\(1<=l[k].kind/\l[k].kind<=3)/\∀j (hj:j<k),(l[j]'(by omega)).name≠l[k].name) l.length ⟨0,by simp[hF]⟩ ?_;rintro t F K n ms ⟨i,rfl,hi,f0,f15,f16,f17,rfl,hk⟩
  by_cases hlt:i<l.length
  ·have hx := aW.ix (ik:=.i64) hlt;have hld:=aW.gM l[i] (aW.l (l.drop (i+1))) K;simp only[dQ,al.av,cons_append,nil_append]at hx hld;have hsl:=aW.xJ (l:=l) (i:=i) hi;simp[Zt,VA,f16,f17,hlt,agl,f15,hx,hld,agk];refine ao.pure (Am l[i].name) ?_;have no:¬(cK l[i].name/\(1<=l[i].kind/\l[i].kind<=3))->¬fG l:=λ h h2=>h ⟨(h2.2.2 i hlt).1,(h2.2.2 i hlt).2.1⟩
   by_cases hn:cK l[i].name
   ·by_cases h1:l[i].kind<1
    ·have:=no λ h=>by omega
     simp[hn,h1,KY];exact .bool (by simp[this])
    by_cases h3:3<l[i].kind
    ·have:=no λ h=>by omega
     simp[hn,h1,h3,KY];exact .bool (by simp[this])
    simp[hn,h1,h3,agj,f0,xO,uk,hsl,al.ag,Nat.min_eq_left hi];refine au.of (λ t F K' n' ms=>∃j,t=i - j/\j<=i/\F.get 0=some (aW.ds l)/\F.get 15=some (aW.ds l)/\F.get 16=some (.int .i64 (l.length:Int))/\F.get 17=some (.int .i64 (i:Int))/\F.get 4=some (.ptr n 0)/\F.get 38=some (aW.ds (l.take i))/\F.get 39=some (.int .i64 (i:Int))/\F.get 40=some (.int .i64 (j:Int))/\n<n'/\K'.get n=some (.cells 3 [] [.str l[i].name,.int .i64 l[i].kind,.bool l[i].need] .nil)/\ms=[]/\∀q (h:q<j) (h2:q<l.length),l[q].name≠l[i].name) i ⟨0,by simp[f0,f15,f16,f17]⟩ ?_;clear f0 f15 f16 f17 F;rintro t F K' n' ms ⟨j,rfl,hj,f0,f15,f16,f17,f4,f38,f39,f40,hn',hb,rfl,hq⟩
    by_cases hji:j<i
    ·have hjt:j<(l.take i).length:=by simp;omega
     have hx:=aW.ix (ik:=.i64) hjt;have hld:=aW.gM (l.take i)[j] (aW.l ((l.take i).drop (j+1))) K';have hjl:(l.take i)[j]=l[j]:=by rw[getElem_take]
     rw[hjl]at hx hld;simp only[dQ,al.av,cons_append,nil_append]at hx hld;have hne:¬n=n':=by omega
     simp[Zu,Vz,f39,f40,hji,VI,f38,hx,hld,VH,f4,hb,hne]
     by_cases he:l[j].name=l[i].name
     ·have:¬fG l:=λ h=>(h.2.2 i hlt).2.2 j hji he;simp[he,VG];exact .bool (by simp[this])
     simp[he,VF,f0,f15,f16,f17,f4,f38,f39,f40,hb,hne,ah j (by omega)];refine⟨i - (j+1),by omega,j+1,rfl,hji,rfl,by omega,λ q h h2=>?_⟩
     by_cases e:q=j
     ·subst e;exact he
     exact hq q (by omega) h2
    obtain rfl:j=i:=by omega
    simp[Zu,Vz,f39,f40,VE,f0,f15,f16,f17,ah j (by omega)];refine⟨l.length - (j+1),by omega,j+1,rfl,hlt,rfl,λ k h hkj=>?_⟩
    by_cases e:k=j
    ·subst e;exact⟨hn,⟨by omega,by omega⟩,λ q hq'=>hq q hq' (by omega)⟩
    exact hk k h (by omega)
   have:=no λ h=>hn h.1;simp[hn,KY];exact .bool (by simp[this])
  obtain rfl:i=l.length:=by omega
  have:fG l:=⟨h0,h16,λ k h=>hk k h h⟩;simp[Zt,VA,f16,f17,VD];exact .bool (by simp[this])
 have:¬fG l:=λ h=>h16 h.2.1;simp[A40,B40,La,KZ,hF,al.ag,h0,show (16:Int)<(l.length:Int) by omega,VB];exact .bool (by simp[this])
theorem QY {α:Type} [DecidableEq α] {g:FuncId}(E:al α 1)(el:α->AV)(hE:∀a,E.cells a=[el a])(heq:∀a b,bl false .num (el a) (el b)=.val (.bool (decide (a=b))))(hel:∀a,Pure (el a))(hc:cG pG g=some A72)(l:List α)(x:α)(hl:l.length<=lim):ai pG g [E.ds l,el x] (.int .i64 (eE (λ y=>decide (x=y)) l)):=by
 refine bf hc (by simp[hel]) (by simp) (by simp[A72]) λ F hF=>?_;unfold lim at hl;simp[A72,B72,afi,afh,hF,al.ag];refine au.of (λ t F K n ms=>∃i,t=l.length - i/\i<=l.length/\F.get 0=some (E.ds l)/\F.get 1=some (el x)/\F.get 7=some (.int .i64 (l.length:Int))/\F.get 8=some (.int .i64 (i:Int))/\ms=[]/\∀j (hj:j<i) (h:j<l.length),decide (x=l[j])=false) l.length ⟨0,by simp[hF]⟩ ?_;rintro t F K n ms ⟨i,rfl,hi,f0,f1,f7,f8,rfl,hj⟩
 by_cases hlt:i<l.length
 ·have hx:=E.ix (ik:=.i64) hlt;rw[hE]at hx;have hld:∀r H,eT (.dp ([el l[i]]++r)) H=.val (el l[i]):=λ r H=>rfl;simp[Zq,US,f7,f8,hlt,afg,aff,f0,f1,hx];simp only[cons_append,nil_append]at hld;simp[heq]
  by_cases he:x=l[i]
  ·simp[he,afe];refine .eq (by simp) ?_
   congr 1
   exact(nX hlt (by simp) λ j hj'=>by have:=hj j hj' (by omega);rw[he]at this;exact this).symm
  simp[he,afd,f0,f1,f7,f8,ah i (by omega)];refine⟨l.length - (i+1),by omega,i+1,rfl,hlt,rfl,λ j hj' h=>?_⟩
  by_cases e:j=i
  ·subst e;exact he
  simpa using hj j (by omega) h
 obtain rfl:i=l.length:=by omega
 simp[Zq,US,f7,f8,afc];refine .eq (by simp) ?_
 congr 1
 exact(kW λ j h=>hj j h h).symm
theorem JZ (l:List (List Nat))(x:List Nat)(hl:l.length<=lim):ai pG 72 [bB.ds l,.str x] (.int .i64 (eE (λ y=>decide (x=y)) l)):=QY bB .str (λ _=>rfl) (λ a b=>by simp) (λ _=>by simp) c72 l x hl
theorem Q9 (l:List Int)(x:Int)(hl:l.length<=lim):ai pG 124 [bR.ds l,.int .i64 x] (.int .i64 (eE (λ y=>decide (x=y)) l)):=QY bR (.int .i64) (λ _=>rfl) (λ a b=>by simp) (λ _=>by simp) c124 l x hl
theorem qh (l:List (List Nat))(x:List Nat)(hl:l.length<=lim):ai pG 58 [bB.ds l,.str x] (.bool (decide (x∈l))):=by
 refine bf c58 (by simp) (by simp) (by simp[A58]) λ F hF=>?_;simp[A58,B58,afO,afN,hF];refine ao.pure (JZ l x hl) ?_;simp;refine .bool ?_;rw[vv,Bool.eq_iff_iff];simp
theorem Gl (l:List Int)(x:Int)(hl:l.length<=lim):ai pG 97 [bR.ds l,.int .i64 x] (.bool (decide (x∈l))):=by
 refine bf c97 (by simp) (by simp) (by simp[A97]) λ F hF=>?_;simp[A97,B97,adq,adp,hF];refine ao.pure (Q9 l x hl) ?_;simp;refine .bool ?_;rw[vv,Bool.eq_iff_iff];simp
def Val.z:Val:=⟨0,0,[]⟩
def Ex.bare (op:Int):Ex->Prop
 | .mk o v t m cu args=>o=op/\(v.kind=0/\v.num=0/\v.s=[])/\t=[]/\m=[]/\cu=0/\args=[]
theorem Gx (e:Ex) (op:Int):ai pG 100 [e.av,.int .i64 op] (.bool (decide (e.bare op))):=by
 obtain⟨o,⟨k,a,s⟩,t,m,cu,args⟩:=e;refine bf c100 (by simp) (by simp) (by simp[A100]) λ F hF=>?_;simp only[Ex.bare]
 by_cases h1:o=op
 ·by_cases h2:k=0/\a=0/\s=[]
  ·by_cases h3:t=[]
   ·by_cases h4:m=[]
    ·by_cases h5:cu=0
     ·simp[A100,B100,qz,qy,hF,Ex.av,Ex.cells,h1,h2,h3,h4,h5];exact .bool (by simp)
     simp[A100,B100,qz,qy,hF,Ex.av,Ex.cells,h1,h2,h3,h4,h5];exact .bool (by simp)
    simp[A100,B100,qz,qy,hF,Ex.av,Ex.cells,h1,h2,h3,h4];exact .bool (by simp)
   simp[A100,B100,qz,qy,hF,Ex.av,Ex.cells,h1,h2,h3];exact .bool (by simp)
  have h2':(decide (k=0)&&(decide (a=0)&&decide (s=[])))=false:=by simpa using λ a b c=>h2 ⟨a,b,c⟩
  simp[A100,B100,qz,qy,hF,Ex.av,Ex.cells,h1,h2'];exact .bool (by simp)
 simp[A100,B100,qz,qy,hF,Ex.av,Ex.cells,h1];exact .bool (by simp)
theorem um (e:Ex):ai pG 102 [e.av] (.bool (decide (e.bare 0))):=by
 refine bf c102 (by simp) (by simp) (by simp[A102]) λ F hF=>?_;simp[A102,B102,Zd,Zc,hF];refine ao.pure (Gx e 0) ?_;simp;exact .bool (by simp)
mutual
def Ex.may:Ex->Bool
 | .mk op v t m cu args=>if op=1 then decide (t=[]/\m=[]/\cu=0/\args=[])&&(v.may&&(decide (v.kind≠1)||decide (0<=v.num)))
  else if op=2 then decide (aD m)&&((decide (t=[])||decide (aD t))&&decide ((v.kind=0/\v.num=0/\v.s=[])/\cu=0/\args=[]))
  else decide (4<=op/\op<=21)&&(decide ((args.length:Int)=if op<=7 then 1 else 2)&&(decide ((v.kind=0/\v.num=0/\v.s=[])/\t=[]/\m=[]/\cu=0)&&Ex.oJ args))
def Ex.oJ:List Ex->Bool
 | []=>true
 | e::r=>e.may&&Ex.oJ r
end
theorem Ex.Dy {l:List Ex}(h:Ex.oJ l=true):∀i (hi:i<l.length),l[i].may=true:=by
 induction l with
 | nil=>intro i hi;simp at hi
 | cons e r ih =>
  simp[Ex.oJ]at h;intro i hi
  cases i with
  | zero=>exact h.1
  | succ i=>exact ih h.2 i (by simpa using hi)
theorem Ex.aaG {l:List Ex}(h:∀i (hi:i<l.length),l[i].may=true):Ex.oJ l=true:=by
 induction l with
 | nil=>rfl
 | cons e r ih =>
  simp only[Ex.oJ,Bool.and_eq_true];exact⟨h 0 (by simp),ih λ i hi=>h (i+1) (by simpa using hi)⟩
theorem Ex.QE {l:List Ex}{i:Nat}(hi:i<l.length)(h:l[i].may=false):Ex.oJ l=false:=by
 cases hr:Ex.oJ l with
 | false=>rfl
 | true=>rw[Ex.Dy hr i hi]at h;cases h
theorem QG : ∀ (N : Nat) (e:Ex),e.sz<=N->N<=lim->ai pG 48 [e.av] (.bool e.may)
 | 0,e,h,_=>by have:=Ex.gd e;omega
 | N + 1, .mk op v t m cu args,ha,hN=>by
  simp only[Ex.sz]at ha;have hla:=Ex.jf args;refine bf c48 (by simp) (by simp) (by simp[A48]) λ F hF=>?_;simp only[Ex.may]
  by_cases h1:op=1
  ·subst h1;obtain⟨k,a,s⟩:=v;rw[if_pos rfl];generalize hR:(decide (t=[]/\m=[]/\cu=0/\args=[])&&((Val.mk k a s).may&&(decide (k≠1)||decide (0<=a))))=R;simp[A48,B48,wM,wL,wJ,af8,af7,af6,hF,Ex.av,Ex.cells];refine ao.pure (Gx (.mk 1 ⟨0,0,[]⟩ t m cu args) 1) ?_;simp only[Ex.bare]
   by_cases hb:t=[]/\m=[]/\cu=0/\args=[]
   ·simp[hb];refine ao.pure (anO ⟨k,a,s⟩) ?_
    cases hm:(Val.mk k a s).may with
    | false =>
     simp;exact .bool (by rw[<-hR,hm];simp)
    | true =>
     by_cases hk:k=1
     ·simp[hk];exact .bool (by rw[<-hR,hm];simp[hk,hb])
     simp[hk];exact .bool (by rw[<-hR,hm];simp[hk,hb])
   simp[hb];exact .bool (by rw[<-hR,decide_eq_false hb,Bool.false_and])
  by_cases h2:op=2
  ·subst h2;rw[if_neg (by omega),if_pos rfl];generalize hR:(decide (aD m)&&((decide (t=[])||decide (aD t))&&decide ((v.kind=0/\v.num=0/\v.s=[])/\cu=0/\args=[])))=R;simp[A48,B48,wM,wL,wJ,zE,af5,hF,Ex.av,Ex.cells];refine ao.pure (eh m) ?_
   have tail:∀(b:Bool),b=(decide (aD m)&&(decide (t=[])||decide (aD t)))->∀(F':Fr) (K:Hp) (n:Nat) (Q:QA),F'.get 5=some (.bool b)->F'.get 1=some (.ptr 0 0)->K.get 0=some (.cells 8 [] (Ex.mk 2 v t m cu args).cells .nil)->(∀F2 K2 n2,F2.get 2=some (.bool R)->Q .ret F2 K2 n2 [])->VC pG KU F' K n [] (hJ pG (.seq KT .ret) Q):=by
    intro b hb F' K n Q g5 g1 hK hQ;obtain⟨k,a,s⟩:=v;rw[<-Bool.and_assoc,<-hb]at hR;simp only[Ex.cells]at hK
    cases b with
    | false =>
     simp[KU,KT,g5,g1,hK];exact hQ _ _ _ (by rw[<-hR];simp)
    | true =>
     simp[KU,KT,g5,g1,hK];refine ao.pure (Gx (.mk 2 ⟨k,a,s⟩ [] [] cu args) 2) ?_;simp;exact hQ _ _ _ (by rw[<-hR];simp[Ex.bare])
   have fin:∀F2 (K2:Hp) (n2:Nat),F2.get 2=some (.bool R)->bX 0 (hJ pG (.seq (.seq lX (.cond (aC 109) (.seq nD .ret) .skip)) (.seq (.seq Bw (.block 1 (.loop E1))) (.seq Bv .ret))) (iR [aP 2] λ v1 H' _=>dU H'.get v1 (.bool R))) .ret F2 K2 n2 []:=by
    intro F2 K2 n2 h;simp[h];exact .bool rfl
   by_cases hm:aD m
   ·by_cases ht:t=[]
    ·simp[hm,ht];refine tail true (by simp[hm,ht]) _ _ _ _ (by simp) (by simp) (by simp[Ex.cells,ht]) fin
    simp[hm,ht];refine ao.pure (eh t) ?_;simp;exact tail (decide (aD t)) (by simp[hm,ht]) _ _ _ _ (by simp) (by simp) (by simp[Ex.cells]) fin
   simp[hm];exact tail false (by simp[hm]) _ _ _ _ (by simp) (by simp) (by simp[Ex.cells]) fin
  rw[if_neg h1,if_neg h2];generalize hR:(decide (4<=op/\op<=21)&&(decide ((args.length:Int)=if op<=7 then 1 else 2)&&(decide ((v.kind=0/\v.num=0/\v.s=[])/\t=[]/\m=[]/\cu=0)&&Ex.oJ args)))=R
  have body : ∀ (wn:Int),wn=(if op<=7 then 1 else 2)->(4<=op/\op<=21)->∀F':Fr,F'.get 1=some (.ptr 0 0)->F'.get 3=some (.int .i64 wn)->∀K:Hp,K.get 0=some (.cells 8 [] (Ex.mk op v t m cu args).cells .nil)->∀n,0<n ->
    VC pG (.seq (.seq lX (.cond (aC 109) (.seq nD .ret) .skip)) (.seq (.seq Bw (.block 1 (.loop E1))) (.seq Bv .ret))) F' K n [] (iR [aP 2] λ v1 H' _=>dU H'.get v1 (.bool R)):=by
   intro wn hw hr F' g1 g3 K hK n hn;rw[<-hw,decide_eq_true hr,Bool.true_and]at hR;obtain⟨k,a,s⟩:=v;simp only[Ex.cells]at hK
   by_cases hlen:(args.length:Int)=wn
   ·by_cases hv : k=0/\a=0/\s=[]
    ·by_cases ht:t=[]
     ·by_cases hm:m=[]
      ·by_cases hc:cu=0
       ·simp[lX,g1,g3,hK,hlen,hv,ht,hm,hc,Bw];obtain⟨rfl,rfl,rfl⟩:=hv;subst ht hm hc;have hR':Ex.oJ args=R:=by rw[<-hR];simp[hlen]
        unfold lim at hN;refine au.of (λ q F K n' ms=>∃i,q=args.length - i/\i<=args.length/\F.get 111=some (.ds (Ex.aI args) args.length 8)/\F.get 112=some (.int .i64 (args.length:Int))/\F.get 113=some (.int .i64 (i:Int))/\ms=[]/\∀j (hj:j<i) (h:j<args.length),args[j].may=true) args.length ⟨0,by simp[hlen]⟩ ?_;clear g1 g3 hK hF F F';rintro q F K n' ms ⟨i,rfl,hi,f111,f112,f113,rfl,hj⟩
        by_cases hlt:i<args.length
        ·have hx:=jM (k:=.i64) hlt;have m1:=Ex.lr (getElem_mem hlt);simp[E1,Hh,f112,f113,hlt,Vt,f111,hx,Vs];refine ao.pure (QG N args[i] (by omega) (by unfold lim;omega)) ?_
         cases hr':args[i].may with
         | true =>
          simp[Vq,f111,f112,f113,ah i (by omega)];refine⟨args.length - (i+1),by omega,i+1,rfl,hlt,by omega,λ j hj' h=>?_⟩
          by_cases e:j=i
          ·subst e;exact hr'
          exact hj j (by omega) h
         | false =>
          simp[Vr];exact .bool (by rw[<-hR',Ex.QE hlt hr'])
        obtain rfl:i=args.length:=by omega
        simp[E1,Hh,f112,f113,Bv];exact .bool (by rw[<-hR',Ex.aaG λ j h=>hj j h h])
       simp[lX,g1,g3,hK,hlen,hv,ht,hm,hc,nD];exact .bool (by rw[<-hR];simp[hc])
      simp[lX,g1,g3,hK,hlen,hv,ht,hm,nD];exact .bool (by rw[<-hR];simp[hm])
     simp[lX,g1,g3,hK,hlen,hv,ht,nD];exact .bool (by rw[<-hR];simp[ht])
    have hv':(decide (k=0)&&(decide (a=0)&&decide (s=[])))=false:=by simpa using λ a b c=>hv ⟨a,b,c⟩
    simp[lX,g1,g3,hK,hlen,hv',nD];exact .bool (by rw[<-hR];simp[hv])
   simp[lX,g1,g3,hK,hlen,nD];exact .bool (by rw[<-hR];simp[hlen])
  by_cases hr:4<=op/\op<=21
  ·obtain⟨r1,r2⟩:=hr
   by_cases h7:op<=7
   ·have:op=4∨op=5∨op=6∨op=7:=by omega
    rcases this with rfl | rfl | rfl | rfl<;>(simp[A48,B48,wM,wL,wJ,zE,wK,Vu,hF,Ex.av,Ex.cells];simpa using body 1 (by simp) (by omega) _ (by simp) (by simp) _ (by simp[Ex.cells]) _ (by omega))
   have n4:¬op=4:=by omega
   have n5:¬op=5:=by omega
   have n6:¬op=6:=by omega
   have n7:¬op=7:=by omega
   simp[A48,B48,wM,wL,wJ,zE,wK,Bz,hF,Ex.av,Ex.cells,h1,h2,n4,n5,n6,n7,show ¬op<8 by omega,show ¬ 21<op by omega];simpa using body 2 (by simp[h7]) ⟨r1,r2⟩ _ (by simp) (by simp) _ (by simp[Ex.cells]) _ (by omega)
  have n4:¬op=4:=by omega
  have n5:¬op=5:=by omega
  have n6:¬op=6:=by omega
  have n7:¬op=7:=by omega
  by_cases l8:op<8
  ·simp[A48,B48,wM,wL,wJ,zE,wK,Bz,hF,Ex.av,Ex.cells,h1,h2,n4,n5,n6,n7,l8,Hi];exact .bool (by rw[<-hR,decide_eq_false hr,Bool.false_and])
  simp[A48,B48,wM,wL,wJ,zE,wK,Bz,hF,Ex.av,Ex.cells,h1,h2,n4,n5,n6,n7,l8,show 21<op by omega,Hi];exact .bool (by rw[<-hR,decide_eq_false hr,Bool.false_and])
theorem Dz (e:Ex)(h:e.sz<=lim):ai pG 48 [e.av] (.bool e.may):=QG lim e h (Nat.le_refl _)
def aR.kinds (t:aR):List Int:=t.ae.map (·.kind)
def aj (l:List aR):List Int:=l.flatMap aR.kinds
theorem gC {l:List aR}{i:Nat}(h:i<l.length):aj (l.take (i+1))=aj (l.take i)++l[i].kinds:=by
 rw[take_add_one,getElem?_eq_getElem h];simp only[aj,flatMap_append,Option.toList,flatMap_cons,flatMap_nil,append_nil]
theorem gD (l:List aR)(i:Nat):(aj (l.take i)).length<=(aj l).length:=by
 conv=>rhs;rw[<-take_append_drop i l]
 simp only[aj,flatMap_append,length_append];omega
theorem FL {l:List eW}{j:Nat}(h:j<l.length):(l.take (j+1)).map (·.kind)=(l.take j).map (·.kind)++[l[j].kind]:=by
 rw[take_add_one,getElem?_eq_getElem h];simp only[map_append,Option.toList,map_cons,map_nil]
def ju (ns:List (List Nat))(ts:List aR):List AV:=[bB.ds ns,aG.ds ts]
theorem aa3 (ns:List (List Nat)) (ts:List aR) (hl:(aj ts).length<=lim) (ht:ts.length<=lim) (hc:∀t∈ts,t.ae.length<=lim):
  aH pG 105 [.agg (ju ns ts) 2] .nil 0 (λ v K k=>ar K k v (bU (aj ts)) (aj ts).length 1):=by
 unfold lim at hl ht hc;refine aH.of c105 (by simp[A105]) λ F hF=>?_;simp[A105,B105,Y',Y_,Y9,hF,ju,al.ag];refine au.of (λ q F K n ms=>∃(i:Nat) (v:AV),q=ts.length - i/\i<=ts.length/\F.get 3=some v/\F.get 9=some (aG.ds ts)/\F.get 10=some (.int .i64 (ts.length:Int))/\F.get 11=some (.int .i64 (i:Int))/\ar K n v (bU (aj (ts.take i))) (aj (ts.take i)).length 1/\ms=[]) ts.length ⟨0,.ak (.slice none 0 0),by simp,by simp,by simp,by simp,by simp,by simp,by simpa[aj,bU]using ar.nil _ _ 1,rfl⟩ ?_;clear hF F;rintro q F K n ms ⟨i,v,rfl,hi,f3,f9,f10,f11,ho,rfl⟩
 by_cases hlt:i<ts.length
 ·have hx:=aG.ix (ik:=.i64) hlt;have hld:=λ H=>aG.gM ts[i] (aG.l (ts.drop (i+1))) H;have hcl:=hc ts[i] (getElem_mem hlt);have hkl:=gD ts (i+1);rw[gC hlt]at hkl;simp[Jn,Jc,Y8,Y7,f9,f10,f11,hlt,hx,hld,al.av];simp[aU,al.ag];refine au.of (λ q F K n ms=>∃(j:Nat) (v:AV),q=ts[i].ae.length - j/\j<=ts[i].ae.length/\F.get 3=some v/\F.get 9=some (aG.ds ts)/\F.get 10=some (.int .i64 (ts.length:Int))/\F.get 11=some (.int .i64 (i:Int))/\F.get 16=some (aW.ds ts[i].ae)/\F.get 17=some (.int .i64 (ts[i].ae.length:Int))/\F.get 18=some (.int .i64 (j:Int))/\ar K n v (bU (aj (ts.take i)++(ts[i].ae.take j).map (·.kind))) (aj (ts.take i)++(ts[i].ae.take j).map (·.kind)).length 1/\ms=[]) ts[i].ae.length ⟨0,v,by simp,by simp,by simp[f3],by simp[f9],by simp[f10],by simp[f11],by simp,by simp,by simp,?_,rfl⟩ ?_
  ·simp
   exact ho.frame (by omega) λ c hc=>by
    have:=ho.aK hc;have q1:¬c=n:=by omega
    simp[q1]
  clear f3 f9 f10 f11 ho F v K n hx hld;rintro q F K n ms ⟨j,v,rfl,hj,f3,f9,f10,f11,f16,f17,f18,ho,rfl⟩
  by_cases hjl:j<ts[i].ae.length
  ·have hx:=aW.ix (ik:=.i64) hjl;have hld:=λ H=>aW.gM ts[i].ae[j] (aW.l (ts[i].ae.drop (j+1))) H;simp[Jo,Jb,Y6,f16,f17,f18,hjl,hx,hld,al.av];simp[Y5,f3,dQ];have hbl:=λ c hc=>ho.aK (c:=c) hc;generalize hH1:Tr.put _ (n+1) _=H1
   have ho2:ar H1 (n+1+1) v (bU (aj (ts.take i)++(ts[i].ae.take j).map (·.kind))) (aj (ts.take i)++(ts[i].ae.take j).map (·.kind)).length 1:=ho.frame (by omega) λ c hc=>by
    have:=hbl c hc;have q1:¬c=n:=by omega
    have q2:¬c=n+1:=by omega
    rw[<-hH1];simp[q1,q2]
   have hw:H1.get (n+1)=some (.cells 1 [] (bU [ts[i].ae[j].kind]) .nil):=by rw[<-hH1];simp[bU]
   clear hH1
   have hsc:bZ H1 1 (.sl (n+1) 0 1 1)=some (bU [ts[i].ae[j].kind]):=by
    rw[fU hw (fe.list (by simp)) (by simp)];simp[bU]
   have hjl2:(aj (ts.take i)++(ts[i].ae.take j).map (·.kind)).length<=1048576:=by
    have h1:((ts[i].ae.take j).map (·.kind)).length<=ts[i].kinds.length:=by simp[aR.kinds];omega
    simp only[length_append]at hkl ⊢;omega
   refine ar.app (k:=1) (new:=bU [ts[i].ae[j].kind]) ho2 hsc (by simp) (by simp) (by omega) (by omega) (by unfold big;omega) (by omega) (by simp) λ H' o' _=>?_;simp[Y4,f18,ah j (by omega)];refine⟨_,by omega,j+1,rfl,by omega,f9,f10,f11,f16,f17,by simp,?_⟩;have hk:=FL hjl;rw[map_take]at hk;rw[hk,<-append_assoc,qU];have e1:(aj (ts.take i)).length+min (j+1) ts[i].ae.length=(aj (ts.take i)).length+min j ts[i].ae.length+1:=by omega
   rw[e1];simpa using o'
  have J2:j=ts[i].ae.length:=by omega
  rw[J2,take_length]at ho;simp[Jo,Jb,Mu,f11,f17,f18,J2,ah i (by omega)];refine⟨_,by omega,i+1,rfl,by omega,v,f3,f9,f10,by simp,?_⟩;rw[gC hlt];exact ho
 have hie:i=ts.length:=by omega
 subst hie;rw[take_length]at ho;simp[Jn,Jc,Mt,f3,f10,f11];exact ho
theorem Qz (c:eW)(s:List Nat)(b:Nat)(H:Hp)(n:Nat)(hb:H.get b=some (.cells 1 [] [.str s] .nil))(ht:cS H n):aH pG 125 [aW.av c,.ptr b 0] H n (λ u K k=>u=.bool (decide (c.name=s))/\K=H/\k=n):=by
 refine aH.forget (by simp) (aH.of c125 (by simp[A125]) λ F hF=>?_);have q:¬b=n:=by have:=ht.lt hb;omega
 simp[A125,B125,Xv,Xu,hF,al.av,dQ,q,hb];rintro c hc rfl;exact absurd (ht _ (Nat.le_refl _)) hc
def eN (table name:List Nat):List (List Nat×aR)->Nat->Int->Bool->Int×Int
 | [],_,found,src=>if 0<=found then (found,0)else if table≠[]/\src=false then (0,200)else (0,201)
 | (n,t)::r,Fb,found,src =>
  if (table=[]∨n=table)/\0<=eE (λ c:eW=>decide (c.name=name)) t.ae then
   (if 0<=found then (0,205)else eN table name r (Fb+t.ae.length) ((Fb:Int)+eE (λ c:eW=>decide (c.name=name)) t.ae) true)
  else eN table name r (Fb+t.ae.length) found (src||decide (table=[]∨n=table))
set_option maxHeartbeats 4000000 in
theorem aak (ns:List (List Nat)) (ts:List aR) (table name:List Nat) (hn:ns.length=ts.length) (hl:(aj ts).length<=lim) (ht:ts.length<=lim) (hc:∀t∈ts,t.ae.length<=lim):
  ai pG 107 [.agg (ju ns ts) 2,.str table,.str name] (.bg [.int .i64 (eN table name (ns.zip ts) 0 (-1) false).1,.int .i64 (eN table name (ns.zip ts) 0 (-1) false).2]):=by
 unfold lim at hl ht;refine bf c107 (by simp[ju]) (by simp) (by simp[A107]) λ F hF=>?_;simp[A107,B107,YZ,YY,YX,hF,ju,al.ag];refine au.of (λ q F K n ms=>∃(i:Nat) (found:Int) (src:Bool),q=ts.length - i/\i<=ts.length/\F.get 1=some (.str table)/\F.get 3=some (.ptr 0 0)/\F.get 5=some (.ptr 1 0)/\F.get 8=some (.int .i64 ((aj (ts.take i)).length:Int))/\F.get 9=some (.int .i64 found)/\F.get 10=some (.bool src)/\F.get 16=some (aG.ds ts)/\F.get 17=some (.int .i64 (ts.length:Int))/\F.get 18=some (.int .i64 (i:Int))/\cS K n/\K.get 0=some (.cells 2 [] [bB.ds ns,aG.ds ts] .nil)/\K.get 1=some (.cells 1 [] [.str name] .nil)/\found<1048577/\eN table name (ns.zip ts) 0 (-1) false=eN table name ((ns.zip ts).drop i) (aj (ts.take i)).length found src/\ms=[]) ts.length ⟨0,-1,false,by simp,by simp,by simp[hF],by simp,by simp,by simp[aj],by simp,by simp,by simp,by simp,by simp,λ c hc=>?_,by simp,by simp,by omega,by simp[aj],rfl⟩ ?_
 ·have q0:¬c=0:=by omega
  have q1:¬c=1:=by omega
  simp[q0,q1]
 clear hF F;rintro q F K n ms ⟨i,found,src,rfl,hi,f1,f3,f5,f8,f9,f10,f16,f17,f18,tp,k0,k1,hfo,he,rfl⟩
 by_cases hlt:i<ts.length
 ·have hx:=aG.ix (ik:=.i64) hlt;have hld:=λ H=>aG.gM ts[i] (aG.l (ts.drop (i+1))) H;have hsx:=bB.ix (l:=ns) (i:=i) (ik:=.i64) (by omega);simp[xB,xj,YW,f16,f17,f18,hlt,hx,hld,al.av];have n0:=tp.lt k0;have n1:=tp.lt k1;have q0:¬n=0:=by omega
  have q1:¬n=1:=by omega
  have zY:¬ 0=n:=by omega
  have q1':¬ 1=n:=by omega
  rw[jQ]at hsx;generalize hH1:Tr.put _ n _=H1;have hk1:H1.get 1=some (.cells 1 [] [.str name] .nil):=by rw[<-hH1];simp[q1',k1]
  have hk0:H1.get 0=some (.cells 2 [] [bB.ds ns,aG.ds ts] .nil):=by rw[<-hH1];simp[zY,k0]
  have hkn:H1.get n=some (.cells 4 [] (aG.cells ts[i]) .nil):=by rw[<-hH1];simp
  have tp1:cS H1 (n+1):=by
   intro c hc;have q:¬c=n:=by omega
   rw[<-hH1];simp[q,tp c (by omega)]
  clear hH1;rw[aU]at hkn;have hcl:=hc ts[i] (getElem_mem hlt)
  have hidx:aH pG 56 [aW.ds ts[i].ae,.fn (.func 125) [] [.ptr 1 0]] H1 (n+1) (λ u K k=>u=.int .i64 (eE (λ c:eW=>decide (c.name=name)) ts[i].ae)/\K=H1/\k=n+1):=
   rZ (el:=aW.av) (first:=[]) (cap:=[.ptr 1 0]) c56 hcl (aW.ag _) (λ i h=>⟨_,aW.ix h,λ F H n si=>by simp[si,aW.gM]⟩) λ x _=>Qz x name 1 H1 (n+1) hk1 tp1
  have hkb:eE (λ c:eW=>decide (c.name=name)) ts[i].ae<(ts[i].ae.length:Int):=by
   unfold eE
   split
   ·rename_i q hq;have:=(findIdx?_eq_some_iff_findIdx_eq.1 hq).1;omega
   omega
  have hst:(ns.zip ts).drop i=(ns[i]'(by omega),ts[i])::(ns.zip ts).drop (i+1):=by
   rw[drop_eq_getElem_cons (by simp;omega)];simp
  rw[hst,eN]at he;have hkl:=gD ts (i+1);rw[gC hlt,length_append]at hkl;have hkc:ts[i].kinds.length=ts[i].ae.length:=by simp[aR.kinds]
  have hkt:(aj (ts.take (i+1))).length=(aj (ts.take i)).length+ts[i].ae.length:=by rw[gC hlt,length_append,hkc]
  have w1:IntKind.i64.wrap (((aj (ts.take i)).length:Int)+(ts[i].ae.length:Int))=((aj (ts.take (i+1))).length:Int):=by
   rw[hkt];simp[IntKind.wrap,IntKind.signed,IntKind.bits];omega
  have w2:∀kk:Int,0<=kk->kk<(ts[i].ae.length:Int)->IntKind.i64.wrap (((aj (ts.take i)).length:Int)+kk)=((aj (ts.take i)).length:Int)+kk:=λ kk h1 h2=>by
   simp[IntKind.wrap,IntKind.signed,IntKind.bits];omega
  generalize hkk:eE (λ c:eW=>decide (c.name=name)) ts[i].ae=kk at hidx hkb he
  by_cases ht0:table=[]<;>by_cases hb:ns[i]'(by omega)=table<;>cases src<;>simp[YV,YU,YT,f1,f3,f5,f10,hk0,hkn,hsx,ht0,hb]
  all_goals refine ao.same hidx ?_
  all_goals by_cases hk:0<=kk
  all_goals by_cases hf:0<=found
  all_goals simp[ht0,hb,hk,hf]at he
  all_goals simp[YS,YR,Mj,Mi,Mh,Mg,hk,hf,f8,f9,f18,hkn,aW.ag,w1,w2 kk,hkb,ah i (by omega)]
  all_goals first
   | (rw[he];exact .pure _ (by simp))
   | skip
  all_goals exact⟨_,by omega,i+1,rfl,by omega,by first | exact f1 | rw[f1,ht0],f3,f5,rfl,f16,f17,by simp,tp1,hk0,hk1,by omega,by rw[hkt];first | exact he | simpa using he⟩
 have hie:i=ts.length:=by omega
 have hdr:(ns.zip ts).drop i=[]:=drop_eq_nil_of_le (by simp;omega);rw[hdr,eN]at he
 by_cases hf:0<=found
 ·simp[hf]at he;simp[xB,xj,uF,Mf,f9,f17,f18,hie,hf];rw[he];exact .pure _ (by simp)
 by_cases ht0:table=[]
 ·simp[hf,ht0]at he;simp[xB,xj,uF,CH,CG,f1,f9,f17,f18,hie,hf,ht0];rw[he];exact .pure _ (by simp)
 cases src<;>simp[hf,ht0]at he<;>simp[xB,xj,uF,CH,Me,CG,f1,f9,f10,f17,f18,hie,hf,ht0]<;>rw[he]<;>exact .pure _ (by simp)
mutual
theorem Pure.kA {n:Nat}:∀ {v:AV},Pure v->ky n v
 | .int _ _,_=>by simp
 | .bool _,_=>by simp
 | .str _,_=>by simp
 | .ak _,_=>by simp
 | .agg cs _,h=>by simpa using aL.kA (by simpa using h)
 | .bg cs,h=>by simpa using aL.kA (by simpa using h)
 | .ds cs _ _,h=>by simpa using aL.kA (by simpa using h)
 | .dp cs,h=>by simpa using aL.kA (by simpa using h)
 | .kV _ v,h=>by simpa using Pure.kA (v:=v) (by simpa only [Pure]using h)
 | .fn _ a b,h=>by
  have h:aL a/\aL b:=by simpa[Pure]using h
  simpa[ky]using⟨aL.kA h.1,aL.kA h.2⟩
theorem aL.kA {n:Nat}:∀ {l:List AV},aL l->fB n l
 | [],_=>by simp
 | v::r,h=>by
  have h:Pure v/\aL r:=by simpa using h
  simpa using⟨Pure.kA h.1,aL.kA h.2⟩
end
def keep (err e:Int)(is:Bool):Int:=if is=true/\err=0 then e else err
theorem abf (p:Nat)(v1 v2:AV)(err e:Int)(is:Bool)(H:Hp)(n:Nat)(hp:H.get p=some (.cells 3 [] [v1,v2,.int .i64 err] .nil)):
  aH pG 16 [.ptr p 0,.int .i64 e,.bool is] H n (λ u K k=>u=.bg []/\K.get p=some (.cells 3 [] [v1,v2,.int .i64 (keep err e is)] .nil)/\(∀c,c≠p->K.get c=H.get c)/\k=n):=by
 refine aH.of c16 (by simp[A16]) λ F hF=>?_
 cases is with
 | false=>simp[A16,B16,Lg,hF,keep,hp]
 | true =>
  by_cases h0:err=0
  ·simp[A16,B16,Lg,ahN,hF,keep,hp,h0];exact λ c hc e=>absurd e hc
  simp[A16,B16,Lg,hF,keep,hp,h0]
theorem Gb (p:Nat)(v1 v2:AV)(err e:Int)(is:Bool)(H:Hp)(n:Nat)(h1:Pure v1)(h2:Pure v2)(hpn:p<n)(hp:H.get p=some (.cells 3 [] [v1,v2,.int .i64 err] .nil)):
  bT pG 16 [.ptr p 0,.int .i64 e,.bool is] H n (.bg []) (H.put p (some (.cells 3 [] [v1,v2,.int .i64 (keep err e is)] .nil))) n:=by
 have g:∀(b:bI) c,(Tr.nil.put p (some b)).get c=if c=p then some b else none:=λ b c=>by simp
 refine aH.okS (S:=Tr.nil.put p (some (.cells 3 [] [v1,v2,.int .i64 err] .nil))) (S':=Tr.nil.put p (some (.cells 3 [] [v1,v2,.int .i64 (keep err e is)] .nil)))
  ((abf p v1 v2 err e is _ n (by simp)).mono λ u K k ⟨a,b,_,d⟩=>⟨a,λ c y hy=>?_,by omega⟩) (Nat.le_refl _) (by simp[hpn]) (λ c k hk=>?_) (λ c k hk=>?_) (λ c hc=>?_) (λ c hc _=>?_)
 ·rw[g]at hy
  split at hy
  ·rename_i e1;injection hy with hy;subst hy e1;exact⟨_,b,.refl _⟩
  cases hy
 ·rw[g]at hk
  split at hk
  ·rename_i e1;injection hk with hk;subst hk e1;exact⟨hpn,dT (by simp[h1.kA,h2.kA])⟩
  cases hk
 ·rw[g]at hk
  split at hk
  ·rename_i e1;rw[e1,hp];exact hk
  cases hk
 ·rcases hc with h | h
  ·rw[g]at h
   by_cases e1:c=p
   ·simp[e1]
   rw[if_neg e1]at h;exact absurd rfl h
  omega
 rw[g]at hc
 by_cases e1:c=p
 ·rw[if_pos e1]at hc;cases hc
 simp[e1]
def Ex.maybe (e:Ex):Bool:=decide (e.bare 0)||e.may
theorem Aq (e:Ex)(h:e.sz<=lim):ai pG 49 [e.av] (.bool e.maybe):=by
 have hl:=um e;have hm:=Dz e h;have gN:e.av=.agg e.cells 8:=Eq.trans rfl rfl;rw[gN]at hl hm ⊢;refine bf c49 (by simp) (by simp) (by simp[A49]) λ F hF=>?_
 by_cases hb:e.bare 0
 ·simp only[hb,decide_true]at hl;simp[A49,B49,Vp,Vo,hF];refine ao.pure hl ?_;simp;exact .bool (by simp[Ex.maybe,hb])
 simp only[hb,decide_false]at hl;simp[A49,B49,Vp,Vo,hF];refine ao.pure hl ?_;simp;refine ao.pure hm ?_;simp;exact .bool (by simp[Ex.maybe,hb])
def dz:al Ex 8:=⟨Ex.cells,Ex.aA,Ex.oU,Ex.bm⟩
theorem RJ (l:List Ex):dz.l l=Ex.aI l:=by
 induction l with
 | nil=>simp[Ex.aI]
 | cons e r ih=>rw[al.lH,ih];rfl
structure fK where
 e:Ex
 name:List Nat
structure Src where
 table:List Nat
 name:List Nat
 cond:Ex
structure Ord where
 name:List Nat
 desc:Bool
structure ku where
 name:List Nat
 e:Ex
def jq:al fK 9:=⟨λ x=>x.e.cells++[.str x.name],λ _=>by simp,λ x=>aL.vg λ v hv=>by
 rcases mem_append.1 hv with h | h
 ·exact(Ex.oU x.e).mem v h
 simp at h;subst h;simp,λ x=>by simp⟩
def gq:al Src 10:=⟨λ x=>.str x.table::.str x.name::x.cond.cells,λ _=>by simp,λ x=>by simp,λ x=>by simp⟩
def jm:al Ord 2:=⟨λ x=>[.str x.name,.bool x.desc],λ _=>rfl,λ _=>by simp,λ _=>by simp⟩
def eQ:al ku 9:=⟨λ x=>.str x.name::x.e.cells,λ _=>by simp,λ x=>by simp,λ x=>by simp⟩
structure aY where
 jA:Bool
 star:Bool
 items:List fK
 ab:List Src
 cond:Ex
 order:List Ord
 limited:Bool
 limit:Int
def aY.cells (q:aY):List AV:=[.bool q.jA,.bool q.star,jq.ds q.items,gq.ds q.ab]++q.cond.cells++[jm.ds q.order,.bool q.limited,.int .i64 q.limit]
theorem aY.aA (q:aY):q.cells.length=15:=by simp[aY.cells]
theorem aY.pure (q:aY):aL q.cells:=aL.vg λ v hv=>by
 simp only[aY.cells,mem_append,mem_cons,not_mem_nil,or_false]at hv
 rcases hv with((h | h | h | h) | h) | h | h | h
 ·subst h;simp
 ·subst h;simp
 ·subst h;simp
 ·subst h;simp
 ·exact(Ex.oU q.cond).mem v h
 ·subst h;simp
 ·subst h;simp
 subst h;simp
def fK.ok (x:fK):Bool:=x.e.may&&decide (x.name=[]∨aD x.name)
def Src.ok (first:Bool)(x:Src):Bool:=decide (aD x.table)&&(decide (x.name=[]∨aD x.name)&&(if first then decide (x.cond.bare 0)else x.cond.may))
def Ord.ok (x:Ord):Bool:=decide (aD x.name)
def eA:List Src->Bool
 | []=>true
 | x::r=>x.ok true&&r.all (Src.ok false)
def aY.may (q:aY):Bool:=(((q.cond.maybe&&decide (q.ab.length<=4)&&decide (q.order.length<=16)&&decide (0<=q.limit)&&(q.limited||decide (q.limit=0))&&(if q.star then decide (q.items.length=0)else decide (1<=q.items.length/\q.items.length<=16)))&&q.items.all fK.ok)&&eA q.ab)&&q.order.all Ord.ok
theorem P2 (q:aY)(hl:q.order.length<=lim)(b:Bool)(F:Fr)(K:Hp)(n:Nat)(Q:QA)(h1:F.get 1=some (.ptr 0 0))(h3:F.get 3=some (.bool b))(k0:K.get 0=some (.cells 15 [] q.cells .nil))
  (hn:0<n)(hQ:∀F' K' n',F'.get 1=some (.ptr 0 0)->K'.get 0=some (.cells 15 [] q.cells .nil)->0<n'->F'.get 3=some (.bool (b&&q.order.all Ord.ok))->Q .normal F' K' n' []):
  VC pG (.seq sO (.block 4 (.loop xm))) F K n [] Q:=by
 have hc:(q.cells)[12]?=some (jm.ds q.order):=by
  simp only[aY.cells];rw[getElem?_append_right (by simp)];simp
 have hc2:∀h,q.cells[12]'h=jm.ds q.order:=λ h=>by
  have:=getElem?_eq_getElem h;rw[hc]at this;injection this with this;exact this.symm
 unfold lim at hl;simp[sO,h1,k0,aY.aA,hc2,jm.ag];obtain⟨Du,ho⟩:∃f:Nat->Bool,∀i,f i=(b&&(q.order.take i).all Ord.ok):=⟨_,λ _=>rfl⟩;have h0:Du 0=b:=by rw[ho];simp
 refine au.of (λ t F' K' n' ms=>∃i,t=q.order.length - i/\i<=q.order.length/\F'.get 3=some (.bool (Du i))/\F'.get 123=some (jm.ds q.order)/\F'.get 124=some (.int .i64 (q.order.length:Int))/\F'.get 125=some (.int .i64 (i:Int))/\F'.get 1=some (.ptr 0 0)/\K'.get 0=some (.cells 15 [] q.cells .nil)/\0<n'/\ms=[]) q.order.length ⟨0,by simp,by simp,by simp[h3,h0],by simp,by simp,by simp,by simp[h1],k0,hn,rfl⟩ ?_;rintro t F' K' n' ms ⟨i,rfl,hi,f3,f123,f124,f125,g1',kk,hn',rfl⟩
 by_cases hlt:i<q.order.length
 ·have q0:¬n'=0:=by omega
  have zY:¬ 0=n':=by omega
  have hx:=jm.ix (ik:=.i64) hlt;have hld:=λ H=>jm.gM q.order[i] (jm.l (q.order.drop (i+1))) H
  have ht:Du (i+1)=(Du i&&q.order[i].ok):=by
   rw[ho,ho,take_add_one,getElem?_eq_getElem hlt,all_append];simp only[Option.toList,all_cons,all_nil,Bool.and_true,Bool.and_assoc]
  have hcl:jm.cells q.order[i]=[.str q.order[i].name,.bool q.order[i].desc]:=Eq.trans rfl rfl;simp[xm,Hd,Vl,f123,f124,f125,hlt,hx,hld,al.av];simp only[hcl];generalize hb:Du i=b1 at f3 ht
  cases b1 with
  | false =>
   simp[Hc,Hb,f3,f125,ah i (by omega),zY];refine⟨_,by omega,i+1,rfl,by omega,?_,f123,f124,by simp,g1',kk⟩;rw[ht];rfl
  | true =>
   simp[Hc,f3];refine ao.pure (eh q.order[i].name) ?_;simp[Hb,f125,ah i (by omega),zY];refine⟨_,by omega,i+1,rfl,by omega,?_,f123,f124,by simp,g1',kk⟩;rw[ht];simp[Ord.ok]
 have hie:i=q.order.length:=by omega
 rw[hie,ho,take_length]at f3;simp[xm,Hd,f124,f125,hie];exact hQ _ _ _ (by simp[g1']) kk hn' (by simp[f3])
theorem P4 (q:aY) (hl:q.items.length<=lim) (hz:∀x∈q.items,x.e.sz<=lim) (b:Bool) (F:Fr) (K:Hp) (n:Nat) (Q:QA) (h1:F.get 1=some (.ptr 0 0)) (h3:F.get 3=some (.bool b)) (k0:K.get 0=some (.cells 15 [] q.cells .nil))
  (hn:0<n)(hQ:∀F' K' n',F'.get 1=some (.ptr 0 0)->K'.get 0=some (.cells 15 [] q.cells .nil)->0<n'->F'.get 3=some (.bool (b&&q.items.all fK.ok))->Q .normal F' K' n' []):
  VC pG (.seq KP (.block 0 (.loop EZ))) F K n [] Q:=by
 have hc:(q.cells)[2]?=some (jq.ds q.items):=by
  simp[aY.cells]
 have hc2:∀h,q.cells[2]'h=jq.ds q.items:=λ h=>by simp[aY.cells]
 unfold lim at hl;simp[KP,h1,k0,aY.aA,hc2,jq.ag];obtain⟨Du,ho⟩:∃f:Nat->Bool,∀i,f i=(b&&(q.items.take i).all fK.ok):=⟨_,λ _=>rfl⟩;have h0:Du 0=b:=by rw[ho];simp
 refine au.of (λ t F' K' n' ms=>∃i,t=q.items.length - i/\i<=q.items.length/\F'.get 3=some (.bool (Du i))/\F'.get 56=some (jq.ds q.items)/\F'.get 57=some (.int .i64 (q.items.length:Int))/\F'.get 58=some (.int .i64 (i:Int))/\F'.get 1=some (.ptr 0 0)/\K'.get 0=some (.cells 15 [] q.cells .nil)/\0<n'/\ms=[]) q.items.length ⟨0,by simp,by simp,by simp[h3,h0],by simp,by simp,by simp,by simp[h1],k0,hn,rfl⟩ ?_;rintro t F' K' n' ms ⟨i,rfl,hi,f3,f56,f57,f58,g1',kk,hn',rfl⟩
 by_cases hlt:i<q.items.length
 ·have q0:¬n'=0:=by omega
  have zY:¬ 0=n':=by omega
  have hx:=jq.ix (ik:=.i64) hlt;have hld:=λ H=>jq.gM q.items[i] (jq.l (q.items.drop (i+1))) H
  have ht:Du (i+1)=(Du i&&q.items[i].ok):=by
   rw[ho,ho,take_add_one,getElem?_eq_getElem hlt,all_append];simp only[Option.toList,all_cons,all_nil,Bool.and_true,Bool.and_assoc]
  have hcl:jq.cells q.items[i]=q.items[i].e.cells++[.str q.items[i].name]:=Eq.trans rfl rfl;simp[EZ,Vk,afY,f56,f57,f58,hlt,hx,hld,al.av];simp only[hcl];generalize hb:Du i=b1 at f3 ht
  cases b1 with
  | false =>
   simp[Vj,EH,f3,f58,ah i (by omega),zY];refine⟨_,by omega,i+1,rfl,by omega,?_,f56,f57,by simp,g1',kk⟩;rw[ht];rfl
  | true =>
   simp[Vj,f3];have hm:=Dz q.items[i].e (hz _ (getElem_mem hlt));have gN:q.items[i].e.av=.agg q.items[i].e.cells 8:=Eq.trans rfl rfl;rw[gN]at hm;refine ao.pure hm ?_
   have hg:∀h:8<(q.items[i].e.cells++[AV.str q.items[i].name]).length,(q.items[i].e.cells++[AV.str q.items[i].name])[8]'h=.str q.items[i].name:=λ h=>by
    rw[getElem_append_right (by simp)];simp
   cases hme:q.items[i].e.may with
   | false =>
    simp[EH,f58,ah i (by omega),zY];refine⟨_,by omega,i+1,rfl,by omega,?_,f56,f57,by simp,g1',kk⟩;rw[ht];simp[fK.ok,hme]
   | true =>
    by_cases hn:q.items[i].name=[]
    ·simp[EH,f58,ah i (by omega),zY,hn];refine⟨_,by omega,i+1,rfl,by omega,?_,f56,f57,by simp,g1',kk⟩;rw[ht];simp[fK.ok,hme,hn]
    simp[hg,hn];refine ao.pure (eh q.items[i].name) ?_;simp[EH,f58,ah i (by omega),zY];refine⟨_,by omega,i+1,rfl,by omega,?_,f56,f57,by simp,g1',kk⟩;rw[ht];simp[fK.ok,hme,hn]
 have hie:i=q.items.length:=by omega
 rw[hie,ho,take_length]at f3;simp[EZ,Vk,f57,f58,hie];exact hQ _ _ _ (by simp[g1']) kk hn' (by simp[f3])
theorem Nf {l:List Src}{i:Nat}(h:i<l.length):eA (l.take (i+1))=(eA (l.take i)&&l[i].ok (decide (i=0))):=by
 match l,i,h with
 | x::r,0,_=>simp[eA]
 | x::r,i+1,h =>
  have hr:i<r.length:=by simpa using h
  simp only[take_succ_cons,eA];rw[take_add_one,getElem?_eq_getElem hr,all_append];simp[Bool.and_assoc]
theorem P3 (q : aY) (hl:q.ab.length<=lim) (hz:∀x∈q.ab,x.cond.sz<=lim) (b:Bool) (F:Fr) (K:Hp) (n:Nat) (Q:QA) (h1:F.get 1=some (.ptr 0 0)) (h3:F.get 3=some (.bool b)) (k0:K.get 0=some (.cells 15 [] q.cells .nil))
  (hn:0<n)(hQ:∀F' K' n',F'.get 1=some (.ptr 0 0)->K'.get 0=some (.cells 15 [] q.cells .nil)->0<n'->F'.get 3=some (.bool (b&&eA q.ab))->Q .normal F' K' n' []):
  VC pG (.seq wI (.block 2 (.loop zI))) F K n [] Q:=by
 have hc2:∀h,q.cells[3]'h=gq.ds q.ab:=λ h=>by simp[aY.cells]
 unfold lim at hl;simp[wI,h1,k0,aY.aA,hc2,gq.ag];obtain⟨Du,ho⟩:∃f:Nat->Bool,∀i,f i=(b&&eA (q.ab.take i)):=⟨_,λ _=>rfl⟩;have h0:Du 0=b:=by rw[ho];simp[eA]
 refine au.of (λ t F' K' n' ms=>∃i,t=q.ab.length - i/\i<=q.ab.length/\F'.get 3=some (.bool (Du i))/\F'.get 80=some (gq.ds q.ab)/\F'.get 81=some (.int .i64 (q.ab.length:Int))/\F'.get 82=some (.int .i64 (i:Int))/\F'.get 1=some (.ptr 0 0)/\K'.get 0=some (.cells 15 [] q.cells .nil)/\0<n'/\ms=[]) q.ab.length ⟨0,by simp,by simp,by simp[h3,h0],by simp,by simp,by simp,by simp[h1],k0,hn,rfl⟩ ?_;rintro t F' K' n' ms ⟨i,rfl,hi,f3,f80,f81,f82,g1',kk,hn',rfl⟩
 by_cases hlt:i<q.ab.length
 ·have q0 : ¬ n'=0:=by omega
  have zY:¬ 0=n':=by omega
  have hx:=gq.ix (ik:=.i64) hlt;have hld:=λ H=>gq.gM q.ab[i] (gq.l (q.ab.drop (i+1))) H
  have ht:Du (i+1)=(Du i&&q.ab[i].ok (decide (i=0))):=by
   rw[ho,ho,Nf hlt,Bool.and_assoc]
  have hcl:gq.cells q.ab[i]=.str q.ab[i].table::.str q.ab[i].name::q.ab[i].cond.cells:=Eq.trans rfl rfl;simp[zI,Hg,Vm,f80,f81,f82,hlt,hx,hld,al.av];simp only[hcl];generalize hb:Du i=b1 at f3 ht
  cases b1 with
  | false =>
   simp[He,kG,f3,f82,ah i (by omega),zY];refine⟨_,by omega,i+1,rfl,by omega,?_,f80,f81,by simp,g1',kk⟩;rw[ht];rfl
  | true =>
   simp[He,f3];have hm:=Dz q.ab[i].cond (hz _ (getElem_mem hlt));have hk:=um q.ab[i].cond;have gN:q.ab[i].cond.av=.agg q.ab[i].cond.cells 8:=Eq.trans rfl rfl;rw[gN]at hm hk;refine ao.pure (eh q.ab[i].table) ?_
   by_cases g1:aD q.ab[i].table
   ·by_cases g2:q.ab[i].name=[]
    ·simp only[g1,decide_true]
     by_cases g3:i=0
     ·have z1:(i:Int)=0:=by omega
      by_cases gb:q.ab[i].cond.bare 0
      ·simp only[gb,decide_true]at hk;simp[g2,z1];refine ao.pure hk ?_;simp;simp[kG,f82,ah i (by omega),zY];refine⟨_,by omega,i+1,rfl,by omega,?_,f80,f81,by simp,g1',kk⟩;rw[ht];rw[show decide (i=0)=true by simp[g3]];simp[Src.ok,g1,g2,gb]
      simp only[gb,decide_false]at hk;simp[g2,z1];refine ao.pure hk ?_;simp;simp[kG,f82,ah i (by omega),zY];refine⟨_,by omega,i+1,rfl,by omega,?_,f80,f81,by simp,g1',kk⟩;rw[ht];rw[show decide (i=0)=true by simp[g3]];simp[Src.ok,g1,g2,gb]
     have z1:¬(i:Int)=0:=by omega
     have z2:0<i:=by omega
     simp[g2,g3,z2];refine ao.pure hm ?_;simp;simp[kG,f82,ah i (by omega),zY];refine⟨_,by omega,i+1,rfl,by omega,?_,f80,f81,by simp,g1',kk⟩;rw[ht];simp[Src.ok,g1,g2,g3]
    simp[g1,g2];refine ao.pure (eh q.ab[i].name) ?_
    by_cases g4:aD q.ab[i].name
    ·simp only[g4,decide_true]
     by_cases g3:i=0
     ·have z1:(i:Int)=0:=by omega
      by_cases gb:q.ab[i].cond.bare 0
      ·simp only[gb,decide_true]at hk;simp[z1];refine ao.pure hk ?_;simp;simp[kG,f82,ah i (by omega),zY];refine⟨_,by omega,i+1,rfl,by omega,?_,f80,f81,by simp,g1',kk⟩;rw[ht];rw[show decide (i=0)=true by simp[g3]];simp[Src.ok,g1,g2,g4,gb]
      simp only[gb,decide_false]at hk;simp[z1];refine ao.pure hk ?_;simp;simp[kG,f82,ah i (by omega),zY];refine⟨_,by omega,i+1,rfl,by omega,?_,f80,f81,by simp,g1',kk⟩;rw[ht];rw[show decide (i=0)=true by simp[g3]];simp[Src.ok,g1,g2,g4,gb]
     have z1:¬(i:Int)=0:=by omega
     have z2:0<i:=by omega
     simp[g3,z2];refine ao.pure hm ?_;simp;simp[kG,f82,ah i (by omega),zY];refine⟨_,by omega,i+1,rfl,by omega,?_,f80,f81,by simp,g1',kk⟩;rw[ht];simp[Src.ok,g1,g2,g4,g3]
    simp[g4,kG,f82,ah i (by omega),zY];refine⟨_,by omega,i+1,rfl,by omega,?_,f80,f81,by simp,g1',kk⟩;rw[ht];simp[Src.ok,g1,g2,g4]
   simp[g1,kG,f82,ah i (by omega),zY];refine⟨_,by omega,i+1,rfl,by omega,?_,f80,f81,by simp,g1',kk⟩;rw[ht];simp[Src.ok,g1]
 have hie:i=q.ab.length:=by omega
 rw[hie,ho,take_length]at f3;simp[zI,Hg,f81,f82,hie];exact hQ _ _ _ (by simp[g1']) kk hn' (by simp[f3])
theorem P1 (q:aY)(ho:q.order.length<=lim)(hs:q.ab.length<=lim)(hi:q.items.length<=lim)(hz1:∀x∈q.items,x.e.sz<=lim)(hz2:∀x∈q.ab,x.cond.sz<=lim)(b:Bool)(F:Fr)(K:Hp)(n:Nat)(h1:F.get 1=some (.ptr 0 0))(h3:F.get 3=some (.bool b))(k0:K.get 0=some (.cells 15 [] q.cells .nil))(hn:0<n):
  VC pG (.seq KP (.block 0 (.loop EZ))) F K n [] (hJ pG (.seq (.seq wI (.block 2 (.loop zI))) (.seq (.seq sO (.block 4 (.loop xm))) (.seq sN .ret))) (iR [aP 2] λ v1 H' _=>dU H'.get v1 (.bool (((b&&q.items.all fK.ok)&&eA q.ab)&&q.order.all Ord.ok)))):=by
 refine P4 q hi hz1 b F K n _ h1 h3 k0 hn λ F1 K1 n1 g1 gk gn g3=>?_;show VC pG (.seq (.seq wI (.block 2 (.loop zI))) (.seq (.seq sO (.block 4 (.loop xm))) (.seq sN .ret))) F1 K1 n1 [] _;rw[bA];refine P3 q hs hz2 _ F1 K1 n1 _ g1 g3 gk gn λ F2 K2 n2 e1 ek en e3=>?_;show VC pG (.seq (.seq sO (.block 4 (.loop xm))) (.seq sN .ret)) F2 K2 n2 [] _;rw[bA];refine P2 q ho _ F2 K2 n2 _ e1 e3 ek en λ F3 K3 n3 d1 dk dn d3=>?_;show VC pG (.seq sN .ret) F3 K3 n3 [] _;simp[sN,d3];exact .bool (by simp[Bool.and_assoc])
theorem ao.ok {P:Program}{F:Fr}{H H':Hp}{n n':Nat}{m:List Dm}{Q:QA}{f:FuncId}{vs:List AV}{pd:Pd}{r:List (Option GO)}{v:AV}(h:bT P f vs H n v H' n')(k:fj P r (pd.f v F) H' n' m Q):ao f vs pd r P F H n m Q:=
 ao.of h.iB λ u K j ⟨a,b,c⟩=>by subst a b c;exact k
def rL (v1 v2:AV)(err:Int):bI:=.cells 3 [] [v1,v2,.int .i64 err] .nil
theorem DG (ns:List (List Nat))(ts:List aR)(hl:(aj ts).length<=lim)(ht:ts.length<=lim)(hc:∀t∈ts,t.ae.length<=lim):ai pG 105 [.agg (ju ns ts) 2] (.ds (bU (aj ts)) (aj ts).length 1):=
 ai.ofR (by simp[ju]) (by simp) ((aa3 ns ts hl ht hc).mono λ v H' n' h=>h.uw (aN.pure (by simp)) (by omega))
theorem nY {α:Type}(p:α->Bool)(l:List α):eE p l<(l.length:Int):=by
 unfold eE
 split
 ·rename_i q hq;have:=(findIdx?_eq_some_iff_findIdx_eq.1 hq).1;omega
 omega
theorem tB (t:aR)(r:List aR):(aj (t::r)).length=t.ae.length+(aj r).length:=by
 simp[aj,aR.kinds]
theorem rU (table name:List Nat):∀(l:List (List Nat×aR)) (Fb:Nat) (found:Int) (src:Bool),found<Fb->(eN table name l Fb found src).2=0->0<=(eN table name l Fb found src).1/\(eN table name l Fb found src).1<(Fb:Int)+((aj (l.map (·.2))).length:Int)
 | [],Fb,found,src,hf,h=>by
  unfold eN at h ⊢
  split
  ·rename_i h0;simp[aj];omega
  rename_i h0;rw[if_neg h0]at h
  split at h<;>simp at h
 | (n, t)::r,Fb,found,src,hf,h=>by
  have hk:=nY (λ c:eW=>decide (c.name=name)) t.ae;unfold eN at h ⊢;simp only[map_cons,tB]
  split
  ·rename_i h0;rw[if_pos h0]at h
   split
   ·rename_i h1;rw[if_pos h1]at h;simp at h
   rename_i h1;rw[if_neg h1]at h;have:=rU table name r (Fb+t.ae.length) _ true (by omega) h;omega
  rename_i h0;rw[if_neg h0]at h;have:=rU table name r (Fb+t.ae.length) found _ (by omega) h;omega
def iE (ns:List (List Nat))(ts:List aR)(table name:List Nat):Int×Int:=eN table name (ns.zip ts) 0 (-1) false
theorem yC {ns:List (List Nat)}{ts:List aR}(hn:ns.length=ts.length){table name:List Nat}(h:(iE ns ts table name).2=0):0<=(iE ns ts table name).1/\(iE ns ts table name).1<((aj ts).length:Int):=by
 have:=rU table name (ns.zip ts) 0 (-1) false (by omega) h;rw[map_snd_zip (by omega)]at this;unfold iE;omega
mutual
def Ex.bd (ns:List (List Nat)) (ts:List aR):Ex->Int->Ex×Int×Int
 | .mk op v t m cu args,err =>
  if op=2 then (if (iE ns ts t m).2=0 then (.mk 3 ⟨0,0,[]⟩ [] [] (iE ns ts t m).1 [],(aj ts).getD (iE ns ts t m).1.toNat 0,err)else (.mk op v t m cu args,0,keep err (iE ns ts t m).2 true))
  else if op=1 then (.mk op v t m cu args,v.kind,err)
  else (.mk op ⟨0,0,[]⟩ [] [] 0 (Ex.ig ns ts args err).1,(dA op).1.kind,keep (Ex.ig ns ts args err).2.2 203 (!(dA op).1.fits (Ex.ig ns ts args err).2.1))
def Ex.ig (ns:List (List Nat))(ts:List aR):List Ex->Int->List Ex×List Int×Int
 | [],err=>([],[],err)
 | e::r,err=>((e.bd ns ts err).1::(Ex.ig ns ts r (e.bd ns ts err).2.2).1,(e.bd ns ts err).2.1::(Ex.ig ns ts r (e.bd ns ts err).2.2).2.1,(Ex.ig ns ts r (e.bd ns ts err).2.2).2.2)
end
theorem Ex.Et (ns:List (List Nat))(ts:List aR)(a:Ex):∀(l:List Ex)(err:Int),Ex.ig ns ts (l++[a]) err=((Ex.ig ns ts l err).1++[(a.bd ns ts (Ex.ig ns ts l err).2.2).1],(Ex.ig ns ts l err).2.1++[(a.bd ns ts (Ex.ig ns ts l err).2.2).2.1],(a.bd ns ts (Ex.ig ns ts l err).2.2).2.2)
 | [],err=>by simp[Ex.ig]
 | e::r,err=>by simp[Ex.ig,Ex.Et ns ts a r]
theorem Ex.uA (ns:List (List Nat))(ts:List aR):∀(l:List Ex)(err:Int),(Ex.ig ns ts l err).1.length=l.length/\(Ex.ig ns ts l err).2.1.length=l.length
 | [],err=>by simp[Ex.ig]
 | e::r,err=>by simp[Ex.ig,Ex.uA ns ts r]
theorem Ex.Es (ns:List (List Nat))(ts:List aR){l:List Ex}{i:Nat}(h:i<l.length)(err:Int):Ex.ig ns ts (l.take (i+1)) err=((Ex.ig ns ts (l.take i) err).1++[(l[i].bd ns ts (Ex.ig ns ts (l.take i) err).2.2).1],(Ex.ig ns ts (l.take i) err).2.1++[(l[i].bd ns ts (Ex.ig ns ts (l.take i) err).2.2).2.1],(l[i].bd ns ts (Ex.ig ns ts (l.take i) err).2.2).2.2):=by
 rw[take_add_one,getElem?_eq_getElem h];exact Ex.Et ns ts l[i] (l.take i) err
structure WkS (H:Hp)(n:Nat)(ns:List (List Nat))(ts:List aR)(s b k w p:Nat)(v1 v2:AV)(err:Int):Prop where
 hs:H.get s=some (.cells 2 [] (ju ns ts) .nil)
 hb:H.get b=some (.cells 1 [] [.ptr p 0] .nil)
 hk:H.get k=some (.cells 1 [] [.ds (bU (aj ts)) (aj ts).length 1] .nil)
 hw:H.get w=some (.cells 1 [] [.fn (.func 106) [] [.ptr s 0,.ptr b 0,.ptr k 0,.ptr w 0]] .nil)
 hp:H.get p=some (rL v1 v2 err)
 ls:s<n
 lb:b<n
 lk:k<n
 lw:w<n
 lp:p<n
theorem WkS.ne {H:Hp}{n:Nat}{ns:List (List Nat)}{ts:List aR}{s b k w p:Nat}{v1 v2:AV}{err:Int}(h:WkS H n ns ts s b k w p v1 v2 err):s≠p/\b≠p/\k≠p/\w≠p:=by
 refine⟨?_,?_,?_,?_⟩<;>rintro rfl
 ·have:=h.hs.symm.trans h.hp;injection this with this;injection this with this;omega
 ·have:=h.hb.symm.trans h.hp;injection this with this;injection this with this;omega
 ·have:=h.hk.symm.trans h.hp;injection this with this;injection this with this;omega
 have:=h.hw.symm.trans h.hp;injection this with this;injection this with this;omega
theorem WkS.next {H K:Hp}{n n':Nat}{ns:List (List Nat)}{ts:List aR}{s b k w p:Nat}{v1 v2:AV}{err Ee:Int}(h:WkS H n ns ts s b k w p v1 v2 err)(hn:n<=n')(hk:∀c,c<n->c≠p->K.get c=H.get c)(hp:K.get p=some (rL v1 v2 Ee)):WkS K n' ns ts s b k w p v1 v2 Ee:=by
 obtain⟨n1,n2,n3,n4⟩:=h.ne;have l1:=h.ls;have l2:=h.lb;have l3:=h.lk;have l4:=h.lw;have l5:=h.lp;exact⟨(hk s h.ls n1).trans h.hs,(hk b h.lb n2).trans h.hb,(hk k h.lk n3).trans h.hk,(hk w h.lw n4).trans h.hw,hp,by omega,by omega,by omega,by omega,by omega⟩
theorem Ex.uw {h:Hf}{op:Int}{v:Val}{t m:List Nat}{cu:Int}{args:List Ex}{x:AV}(hx:dU h x (.ds (Ex.aI args) args.length 8)):aN h [.int .i64 op,.int .i64 v.kind,.int .i64 v.num,.str v.s,.str t,.str m,.int .i64 cu,x] (Ex.mk op v t m cu args).cells:=by
 rw[Ex.cells];exact .cons _ _ _ _ (.pure _ (by simp)) (.cons _ _ _ _ (.pure _ (by simp)) (.cons _ _ _ _ (.pure _ (by simp)) (.cons _ _ _ _ (.pure _ (by simp)) (.cons _ _ _ _ (.pure _ (by simp)) (.cons _ _ _ _ (.pure _ (by simp)) (.cons _ _ _ _ (.pure _ (by simp)) (.cons _ _ _ _ hx .nil)))))))
theorem Ex.aoR {h:Hf}{cs:List AV}{e:Ex}{kd:Int}(hx:aN h cs e.cells):dU h (.bg [.agg cs 8,.int .i64 kd]) (.bg [e.av,.int .i64 kd]):=
 .bg _ _ (.cons _ _ _ _ (.agg _ _ _ hx) (.cons _ _ _ _ (.pure _ (by simp)) .nil))
theorem ar.jr {P:Program}{H:Hp}{n:Nat}{F:Fr}{m:List Dm}{Q:QA}{v x:AV}{l new:List AV}{len sz jV k:Nat}{pd:Pd}{r:List (Option GO)}(h:ar H n v l len sz)(hx:bZ H sz x=some new)(hk:sliceLen x=some k)(hn:new.length=k*sz)
  (hs:0<sz)(hk0:0<k)(hbig:len+k<=big)(hby:jV<=4096)(h1:bm new=true)
  (hgo:∀H',ar H' (n+1) (.sl n 0 (len+k) sz) (l++new) (len+k) sz->(∀c,c≠n->blk v≠some c->H'.get c=H.get c)->fj P r (pd.f (.sl n 0 (len+k) sz) F) H' (n+1) m Q):Je (Go.Abs.lU sz jV n v x H) pd r P F H n m Q:=by
 obtain⟨H',e,h1,h2⟩:=h.lU hx hk hn hs hk0 hbig hby h1;unfold Je;rw[e];exact hgo H' h1 λ c hc hb=>h2 c hc λ e=>hb (by rw[e];rfl)
theorem ar.vK {H:Hp}{n n0:Nat}{v:AV}{l l':List AV}{len sz:Nat}(h:ar H n v l len sz)(hn:∀c,blk v=some c->n0<=c)(hl:aN (above n0 H) l l')(hz:0<sz):dU (above n0 H) v (.ds l' len sz):=by
 obtain⟨s',rfl⟩:∃k,sz=k+1:=⟨sz - 1,by omega⟩;obtain⟨h0,⟨rfl,rfl⟩ | ⟨b,k,rfl,hb,hk,ho⟩⟩:=h
 ·have:l=[]:=by simpa using h0
  subst this;cases hl;exact .nil _
 obtain⟨u,z,bs,t,rfl,hg⟩:=ho.gJ (o:=0) (c:=len*(s'+1)) (by omega);refine .sl _ _ _ _ _ _ _ _ _ _ ?_ hg ?_
 ·unfold above;rw[if_pos (hn b rfl)];exact hk
 rw[drop_zero,take_of_length_le (by omega)];exact hl
end Go.Abs
