/- A part. -/
import Derived.Test.YtlhafglnokpioaaGreatBt4
noncomputable section
namespace Go.Abs
open List
open Go.Proofs
open Classical
set_option maxRecDepth 100000
def M5:CT:=.seq (.seq EE (.cond (aA 107) (.seq Mc .ret) .skip)) (.seq LZ .ret)
structure amC (s:cn)(b:oH)(err:Int)(K:Hp):Prop where
 k2:K.get 2=aR 25 (oU 0)
 k3:K.get 3=some (gu s err)
 k4:∃l,K.get 4=aR 25 l/\l.length=25/\br l=true/\∀h,oG h l b.cells
theorem oG.Yw {h:Hf}:∀ {l l':List AV},oG h l l'->aP l'->bc h l l'
 |[],[],_,_=>.nil
 |[],_::_,k,_=>by simp[oG]at k
 |_::_,[],k,_=>by simp[oG]at k
 |v::l,v'::l',k,hp=>by
  simp only[wY]at k;simp at hp;refine .cons _ _ _ _ ?_ (oG.Yw k.2 hp.2)
  rcases k.1 with rfl|h1
  ·exact .pure _ hp.1
  exact h1
theorem yw (k:Int)(h:Hf):oG h (oU k) (oH.cells {kind:=k}):=by
 simp[oU,oH.cells,bK.zero,pf.zero]
@[simp] theorem Xq (k:Int):(oU k).length=25:=rfl
theorem Xp (k:Int):br (oU k)=true:=by simp[oU]
def agb:oH:={kind:=0}
def Ag (r:oH×Int):oH×Int:=if r.2=0 then r else (agb,r.2)
theorem UY (s:cn)(b:oH)(err:Int)(F:Fr)(K:Hp)(n:Nat)(f4:F.get 4=some (.ptr 2 0))(f6:F.get 6=some (.ptr 3 0))(f7:F.get 7=some (.ptr 4 0))(O:amC s b err K):
  VC pG M5 F K n [] (kU [b6 4 25,aG 5] λ v1 H' _=>e_ H'.get v1 (.bo [.agg (Ag (b,err)).1.cells 25,zI (Ag (b,err)).2])):=by
 obtain⟨k2,k3,l,k4,hl,ha,hz⟩:=O;simp only[gu,zk]at k3;have hzo:oU 0=[(zI 0),(.str []),(.int .u32 0),(.str []),(.aV (.slice none 0 0)),(.int .u32 0),(.int .u32 0),(.int .u32 0),(.str []),(.aV (.slice none 0 0)),(.bool false),(.int .u32 0),(.aV (.slice none 0 0)),(.aV (.slice none 0 0)),(.aV (.slice none 0 0)),(.aV (.slice none 0 0)),(.aV (.slice none 0 0)),(.aV (.slice none 0 0)),(.aV (.slice none 0 0)),(.aV (.slice none 0 0)),(.aV (.slice none 0 0)),(.aV (.slice none 0 0)),(.bool false),(.bool false),(zI 0)]:=rfl;have zl:=Xq 0;have zo:=Xp 0;have zf:=yw 0
 by_cases h0:err=0
 ·subst h0;generalize oU 0=z at *;have hp:patch z 0 l=some l:=Ba ae;simp[M5,EE,LZ,f4,f6,f7,k2,k3,k4,ha,hp,Ag];exact .bo _ _ (.cons _ _ _ _ (.agg _ _ _ ((hz _).Yw ah)) (.cons _ _ _ _ fp .nil))
 simp[M5,EE,Mc,f6,k3,h0,Ag];rw[<-hzo];generalize oU 0=z at *;have hp:patch z 0 z=some z:=Ba rfl;refine bC.of (bh (P:=pG)) ?_;simp[ab,f4,f6,k2,k3,zo,hp];exact .bo _ _ (.cons _ _ _ _ (.agg _ _ _ ((zf _).Yw ah)) (.cons _ _ _ _ fp .nil))
def C5:CT:=(.seq ab1 (.cond (aA 27) aiQ (.seq ab0 (.cond (aA 32) aiP (.seq ME (.cond (aA 39) acd (.seq MD (.cond (aA 44) (.seq acb (.seq aca (.seq ab' ab_))) (.seq MC (.cond (aA 67) ab9 (.seq MB (.cond (aA 72) (.seq ab8 (.seq ab7 (.cond (aA 83) ab6 .skip))) (.seq MA (.cond (aA 92) ab5 (.seq Me (.cond (aA 97) Md .skip))))))))))))))))
theorem b5:A23.code=(.seq II (.seq (.seq IH (.cond (aA 17) (.seq Rl .ret) .skip)) (.seq ab4 (.seq ab3 (.seq (.seq ab2 (.block 0 C5)) M5))))):=rfl
def Vw (s:cn)(x:dE)(err:Int):oH×Int:=({kind:=x.kind,table:=(s.table (s.index x.name).1.table).1,index:=(s.index x.name).1},keep err 202 (!(s.index x.name).2))
def af1 (s:cn)(x:dE)(err:Int):oH×Int:=
 if keep err 200 (!(s.named x.table).2)≠0 then ({kind:=x.kind,table:=(s.named x.table).1},keep err 200 (!(s.named x.table).2))
 else ({kind:=x.kind,table:=(s.named x.table).1,cond:=(dU [(s.named x.table).1.name] [(s.named x.table).1] x.cond 0).1},(dU [(s.named x.table).1.name] [(s.named x.table).1] x.cond 0).2)
def vZ (s:cn)(x:dE):oH×Int:=
 if x.kind=1 then af2 s x 0
 else if x.kind=2 then ({kind:=x.kind,table:=(s.named x.table).1},keep 0 200 (!(s.named x.table).2))
 else if x.kind=3 then indexB s x 0
 else if x.kind=4 then Vw s x 0
 else if x.kind=5 then afz s x 0
 else if x.kind=6 then af1 s x 0
 else if x.kind=7 then aea s x 0
 else if x.kind=8 then fQ s x.q x.kind 0
 else ({kind:=x.kind},0)
def bN (s:cn)(x:dE):oH×Int:=if eW s/\x.may=true then Ag (vZ s x)else (agb,1)
structure E5 (s:cn)(x:dE)(F:Fr)(K:Hp):Prop where
 f2:F.get 2=some (.ptr 0 0)
 f3:F.get 3=some (.ptr 1 0)
 f4:F.get 4=some (.ptr 2 0)
 f6:F.get 6=some (.ptr 3 0)
 f7:F.get 7=some (.ptr 4 0)
 f26:F.get 26=some (zI x.kind)
 k0:K.get 0=aR 2 (kQ.cells s)
 k1:K.get 1=aR 31 x.cells
 k2:K.get 2=aR 25 (oU 0)
 k3:K.get 3=some (gu s 0)
 k4:K.get 4=aR 25 (oU x.kind)
 top:dh K 5
def amU (s:cn)(x:dE)(Q:QA):Prop:=∀F' K' n',F'.get 4=some (.ptr 2 0)->F'.get 6=some (.ptr 3 0)->F'.get 7=some (.ptr 4 0)->amC s (vZ s x).1 (vZ s x).2 K'->Q .normal F' K' n' []
theorem oH.one (b:oH):br b.cells=true:=by simp[oH.cells,aZ.ds]
theorem Xs {s:cn}{b:oH}{e:Int}{K:Hp}(k2:K.get 2=aR 25 (oU 0)):amC s b e ((K.put 3 (some (gu s e))).put 4 (aR 25 b.cells)):=
 ⟨by simp[k2],ah,_,ah,rfl,b.one,λ h=>oG.refl h _⟩
theorem agf (s:cn)(hs:s.gG)(x:dE)(hq:x.q.gG s)(hC:C25 x.q.cond)(hS:∀y∈x.q.ao,C25 y.cond)(hI:I76 x.q)(hO:O28 x.q)(hk:x.kind=8)(F:Fr)(K:Hp)(Q:QA)(E:E5 s x F K)(hQ:amU s x Q):VC pG C5 F K 5 [] Q:=by
 obtain⟨f2,f3,f4,f6,f7,f26,k0,k1,k2,k3,k4,top⟩:=E;have hc:=aeE s hs x.q hq hC hS hI hO x.kind 3 4 0 K 5 ae ae ae k3 k4;have hb:vZ s x=fQ s x.q x.kind 0:=by simp[vZ,hk]
 have xl:=x.bq;have xq:=x.tq;rw[<-hb]at hc;have hav:x.q.av=.agg x.q.cells 15:=Eq.trans rfl rfl;rw[hav]at hc;rw[hk]at f26;generalize x.cells=xs at *;generalize x.q.cells=qs at *;have hg:jN 31 [] xs .nil 16 15=some qs:=by simp[xl,xq]
 simp[C5,ab1,ab0,ME,MD,MC,MB,MA,Me,Md,f26,f3,f6,f7,k1,hg];refine aB.ok hc ?_;simp;exact hQ _ _ _ (by simp[f4]) (by simp[f6]) (by simp[f7]) (Xs k2)
theorem G4 (k:Int):oU k=[zI k,.str [],.int .u32 0,.str [],.aV (.slice none 0 0),.int .u32 0,.int .u32 0,.int .u32 0,.str [],.aV (.slice none 0 0),.bool false,.int .u32 0,
 .aV (.slice none 0 0),.aV (.slice none 0 0),.aV (.slice none 0 0),.aV (.slice none 0 0),.aV (.slice none 0 0),.aV (.slice none 0 0),.aV (.slice none 0 0),.aV (.slice none 0 0),.aV (.slice none 0 0),.aV (.slice none 0 0),.bool false,.bool false,zI 0]:=rfl
theorem dE.avG {x:dE}(h:x.may=true):x.ok=true:=by
 unfold dE.may at h;rw[dS]at h;exact h.1
theorem bI.Py {s:cn}(ho:eW s){x:dE}(hx:x.sm) (h:x.q.may=true):x.q.gG s:=by
 have hm:x.q.cond.maybe=true/\x.q.ao.length<=4/\(x.q.star=true->x.q.items.length=0)/\(x.q.star=false->x.q.items.length<=16)/\(∀y∈x.q.items,y.e.may=true)/\ju x.q.ao=true:=by
  simp only[bI.may,dS,all_eq_true,decide_eq_true_eq]at h;obtain⟨⟨⟨⟨⟨⟨⟨⟨h1,h2⟩,h3⟩,h4⟩,h5⟩,h6⟩,h7⟩,h8⟩,h9⟩:=h;refine⟨h1,h2,λ e=>?_,λ e=>?_,λ y hy=>?_,h8⟩
  ·rw[e]at h6;simpa using h6
  ·rw[e]at h6;simp at h6;exact h6.2
  have:=h7 y hy;simp only[zR.ok,dS]at this;exact this.1
 obtain⟨h1,h2,h3,h4,h5,h6⟩:=hm
 have hcols:∀y:Src,(s.tb y).cols.length<=16:=λ y=>lG (Q:=λ t:bK=>t.cols.length<=16) (by simp[bK.zero]) λ t ht=>by
  obtain⟨i,hi,rfl⟩:=getElem_of_mem ht;exact(ho.tabs i hi).cols.2.1
 have hk:∀l:List Src,(aF (l.map s.tb)).length<=16*l.length:=by
  intro l
  induction l with
  |nil=>simp[aF]
  |cons y l ih =>
   have:=hcols y;simp only[aF,map_cons,flatMap_cons,length_append,length_cons]at ih ⊢;simp only[bK.kinds,length_map]at ih ⊢;omega
 refine⟨?_,hx.ao,hx.order,λ y hy=>⟨hx.item y hy,h5 y hy⟩,λ y hy=>⟨hx.src y hy,?_⟩,hx.qc,h1⟩
 ·have:=hk x.q.ao
  have:x.q.items.length<=16:=by
   cases e:x.q.star with
   |true=>have:=h3 e;omega
   |false=>exact h4 e
  unfold aU;omega
 cases hs:x.q.ao with
 |nil=>rw[hs]at hy;cases hy
 |cons z r =>
  rw[hs]at h6 hy;simp only[ju,dS,all_eq_true]at h6;simp only[Ex.maybe,Bool.or_eq_true]
  rcases mem_cons.1 hy with rfl|hy
  ·have:=h6.1;simp only[Src.ok,if_true,dS]at this;exact .inl this.2.2
  have:=h6.2 y hy;simp only[Src.ok,dS]at this;exact .inr this.2.2
theorem ame (s:cn)(hs:s.gG)(x:dE)(h17:aj pG 45 [x.av] (.bool x.may))(hbd:x.ok=true->eW s->∀(F:Fr)(K:Hp)(Q:QA),E5 s x F K->amU s x Q->VC pG C5 F K 5 [] Q):aj pG 23 [kQ.av s,x.av] (.bo [.agg (bN s x).1.cells 25,zI (bN s x).2]):=by
 refine pv c23 λ F hF=>?_;have lP:=ag4 s hs;have hav:x.av=.agg x.cells 31:=Eq.trans rfl rfl;have hsv:kQ.av s=.agg [aH.ds s.tables,bp.ds s.indexes] 2:=rfl;have x0:=x.g0;have xl:=x.bq;have xp:=x.pure;rw[hav]at hF h17;rw[hsv]at hF lP
 have body:eW s/\x.may=true->∀(F:Fr) (K:Hp),E5 s x F K->VC pG C5 F K 5 [] (jE 0 (qf pG M5 (kU [b6 4 25,aG 5] λ v1 H' _=>e_ H'.get v1 (.bo [.agg (bN s x).1.cells 25,zI (bN s x).2])))):=by
  rintro⟨ho,hm⟩ F K E;have hb:bN s x=Ag (vZ s x):=by simp[bN,ho,hm]
  have ok:=dE.avG hm
  have fin:amU s x (jE 0 (qf pG M5 (kU [b6 4 25,aG 5] λ v1 H' _=>e_ H'.get v1 (.bo [.agg (bN s x).1.cells 25,zI (bN s x).2])))):=by
   intro F' K' n' g4 g6 g7 O;rw[hb];exact UY s _ _ F' K' n' g4 g6 g7 O
  exact hbd ok ho F K _ E fin
 have hz0:=G4 0;have hzk:=G4 x.kind;clear hs hav hbd;have hR:A23.res=[b6 4 25,aG 5]:=rfl;simp only[hR,b5]
 by_cases ho:eW s
 ·by_cases hm:x.may=true
  ·have body:=body ⟨ho,hm⟩;generalize bN s x=R at *;generalize hxs:x.cells=xs at *;simp only[ho,decide_true]at lP;simp only[hm]at h17;simp[II,hF];simp[IH];refine aB.pure lP ?_;simp;refine aB.pure h17 ?_;simp[ab4,ab3,ab2,x0];rw[<-hz0,<-hzk];refine body _ _ ⟨?_,?_,?_,?_,?_,?_,?_,?_,?_,?_,?_,λ b hb=>?_⟩
   ·simp
   ·simp
   ·simp
   ·simp
   ·simp
   ·simp
   ·simp[fm]
   ·simp[hxs]
   ·simp
   ·simp[gu,zk]
   ·simp
   simp[show ¬b=0 by omega,show ¬b=1 by omega,show ¬b=2 by omega,show ¬b=3 by omega,show ¬b=4 by omega]
  have hb:bN s x=(agb,1):=by simp[bN,hm]
  have hm':x.may=false:=by simpa using hm
  rw[hb];clear body;generalize hxs:x.cells=xs at *;simp only[ho,decide_true]at lP;simp only[hm']at h17;simp[II,hF];simp[IH];refine aB.pure lP ?_;simp;refine aB.pure h17 ?_;simp[Rl];exact .bo _ _ (.cons _ _ _ _ (.agg _ _ _ ((yw 0 _).Yw ah)) (.cons _ _ _ _ fp .nil))
 have hb:bN s x=(agb,1):=by simp[bN,ho]
 rw[hb];clear body h17;generalize hxs:x.cells=xs at *;simp only[ho,decide_false]at lP;simp[II,hF];simp[IH];refine aB.pure lP ?_;simp[Rl];exact .bo _ _ (.cons _ _ _ _ (.agg _ _ _ ((yw 0 _).Yw ah)) (.cons _ _ _ _ fp .nil))
end Go.Abs
namespace Go.Abs
open List
open Go.Proofs
open Classical
set_option maxRecDepth 100000
variable {α:Type}{k:Nat}
end Go.Abs
namespace Go.Abs
open List
open Go.Proofs
open Classical
set_option maxRecDepth 100000
end Go.Abs
namespace Go.Abs
open List
open Go.Proofs
open Classical
set_option maxRecDepth 100000
section
variable {F:Fr}{H:Hp}{n:Nat}
end
end Go.Abs
namespace Go.Abs
open List
open Go.Proofs
open Classical
set_option maxRecDepth 100000
theorem aot (t:bK)(r:List AV)(H:Hp):eD 4 (.dp (.int .u32 t.id::.str t.name::dL.ds t.cols::.int .u32 t.head::r)) H=.val (aH.av t):=aH.pQ t r H
theorem take_snoc {α:Type}{l:List α}{i:Nat}(h:i<l.length):l.take (i+1)=l.take i++[l[i]]:=by
 rw[take_add_one,cX h];rfl
def TbP (l:List bK)(i:Nat):Prop:=∀h:i<l.length,l[i].id≠0/\fF l[i].name/\kg l[i].cols/\∀k (hk:k<i),(l[k]'ae).id<l[i].id/\(l[k]'ae).name≠l[i].name
theorem rI (l:List bK) (h0:∀t∈l,0<=t.id):zx l↔∀i,TbP l i:=by
 constructor
 ·intro h
  have asc:∀i (hi:i<l.length),0<l[i].id/\∀k (hk:k<i),(l[k]'ae).id<l[i].id:=by
   intro i
   induction i with
   |zero=>intro hi;have:=(h 0 hi).id;rw[Dq]at this;exact⟨this,λ k hk=>ae⟩
   |succ i ih =>
    intro hi;obtain⟨a1,a2⟩:=ih ae;have:=(h (i+1) hi).id;rw[Dn ae]at this;refine⟨ae,λ k hk=>?_⟩
    by_cases e:k=i
    ·subst e;exact this
    have:=a2 k ae;omega
  intro i hi;refine⟨by have:=(asc i hi).1;omega,(h i hi).name,(h i hi).cols,λ k hk=>⟨(asc i hi).2 k hk,(h i hi).new _ (mem_take_iff_getElem.2 ⟨k,ae,rfl⟩)⟩⟩
 intro h i hi;refine⟨?_,(h i hi).2.1,(h i hi).2.2.1,λ t ht=>?_⟩
 ·cases i with
  |zero=>rw[Dq];have:=(h 0 hi).1;have:=h0 _ (dw hi);omega
  |succ i=>rw[Dn ae];exact((h (i+1) hi).2.2.2 i ae).1
 obtain⟨k,hk,rfl⟩:=mem_take_iff_getElem.1 ht;exact((h i hi).2.2.2 k ae).2
structure cn.nD (s:cn):Prop where
 t:∀t∈s.tables,0<=t.id
 i:∀t∈s.indexes,0<=t.id
theorem dW (i:Int)(h1 : -2147483648<=i)(h2:i<2147483648):IntKind.i64.wrap i=i:=by
 simp[IntKind.wrap,IntKind.signed,IntKind.bits];omega
@[simp] theorem anO (a b:List Nat):Ig (.str a) (.str b)=.val (zI (cmpL a b)):=Eq.trans rfl rfl
def rk (k:Int):Int:=if k=2 then 3 else if k=1 then 2 else if k=3 then 1 else 0
def pl (k:Int):Int:=if k=0 then 0 else if k=3 then 1 else if k=1 then 2 else 3
theorem WJ (k:Int):aj pG 227 [zI k] (zI (rk k)):=by
 refine pv c227 λ F hF=>?_;unfold rk
 by_cases h2:k=2
 ·subst h2;simp[A227,hF,dW];exact fp
 by_cases h1:k=1
 ·subst h1;simp[A227,hF,dW];exact fp
 by_cases h3:k=3
 ·subst h3;simp[A227,hF,dW];exact fp
 simp[A227,hF,h1,h2,h3];exact fp
theorem OH (k:Int):aj pG 158 [zI k] (zI (pl k)):=by
 refine pv c158 λ F hF=>?_;unfold pl
 by_cases h0:k=0
 ·subst h0;simp[A158,hF];exact fp
 by_cases h3:k=3
 ·subst h3;simp[A158,hF];exact fp
 by_cases h1:k=1
 ·subst h1;simp[A158,hF];exact fp
 simp[A158,hF,h0,h1,h3];exact fp
theorem alW (a b:List Nat):aj pG 285 [.str a,.str b] (zI (cmpL a b)):=by
 refine pv c285 λ F hF=>?_;simp[A285,hF];exact fp
theorem alT (a b:List Nat):aj pG 228 [.str a,.str b] (zI (cmpL a b)):=by
 refine pv c228 λ F hF=>?_;simp[A228,hF];refine aB.pure (alW a b) ?_;simp;exact fp
theorem UT {a b:List Nat}{i:Nat}(ha:i<a.length) (hb:i<b.length):cmpL (a.drop i) (b.drop i)=if a[i]<b[i]then -1 else if b[i]<a[i]then 1 else cmpL (a.drop (i+1)) (b.drop (i+1)):=by
 rw[ga ha,ga hb];simp only[cmpL]
 by_cases e:a[i]=b[i]
 ·simp[e]
 rw[show Nat.beq a[i] b[i]=false by simpa using e];dsimp only
 by_cases h:a[i]<b[i]
 ·rw[show Nat.blt a[i] b[i]=true by rw[Nat.blt_eq];exact h];simp[h]
 rw[show Nat.blt a[i] b[i]=false by cases q:Nat.blt a[i] b[i]with
  |false=>rfl
  |true=>rw[Nat.blt_eq]at q;exact ar q h]
 rw[ai h,aw ae]
theorem aga (a b:List Nat) (ha:a.length<2147483648) (_hb:b.length<2147483648):aj pG 159 [.str a,.str b] (zI (cmpL a b)):=by
 refine pv c159 λ F hF=>?_;simp[A159];refine aE.of (λ k F K m ms=>∃i,k=a.length - i/\i<=a.length/\i<=b.length/\F.get 0=some (.str a)/\F.get 1=some (.str b)/\F.get 5=some (zI (i:Int))/\K=.nil/\ms=[]/\cmpL a b=cmpL (a.drop i) (b.drop i)) a.length ⟨0,by simp[hF]⟩ ?_;rintro k F K m ms ⟨i,rfl,hi,hib,f0,f1,f5,rfl,rfl,he⟩
 by_cases hlt:i<a.length
 ·by_cases JK:i<b.length
  ·have hx:=xd (k:=.i64) hlt;have hy:=xd (k:=.i64) JK;rw[UT hlt JK]at he;simp[zO,f0,f1,f5,hlt,JK];refine bC.of (bh (P:=pG)) ?_;simp[ab,f0,f1,f5,hx,hy]
   by_cases h1:a[i]<b[i]
   ·rw[aw h1]at he;simp[h1,acW,he];exact fp
   rw[ai h1]at he;simp[h1,acV];refine bC.of (bh (P:=pG)) ?_;simp[ab,f0,f1,f5,hx,hy]
   by_cases h2:b[i]<a[i]
   ·rw[aw h2]at he;simp[h2,acU,he];exact fp
   rw[ai h2]at he;simp[h2,acT,ab,f0,f1,f5,aD i ae];exact⟨a.length - (i+1),ae,i+1,rfl,hlt,JK,ae,he⟩
  have:i=b.length:=ae;subst this
  have:cmpL a b=1:=by
   rw[he,drop_length,ga hlt];rfl
  simp[zO,f0,f1,f5,hlt,Fh,Fj,Sm,this,show ¬a.length<b.length by omega];exact fp
 have:i=a.length:=ae;subst this
 by_cases JK:a.length<b.length
 ·have:cmpL a b = -1:=by
   rw[he,drop_length,ga JK];rfl
  simp[zO,f0,f1,f5,Fh,acS,this,JK];exact fp
 have hl:b.length=a.length:=ae
 have:cmpL a b=0:=by
  rw[he,drop_length,<-hl,drop_length];rfl
 simp[zO,f0,f1,f5,Fh,Fj,Sl,this,hl];exact fp
def Val.ord (v u:Val):Int:=if v.kind=u.kind then (if v.kind=2 then cmpL v.s u.s else if v.num<u.num then -1 else if u.num<v.num then 1 else 0)else (if rk v.kind<rk u.kind then -1 else 1)
theorem OK (v u:Val):aj pG 164 [v.av,u.av] (zI (v.ord u)):=by
 refine pv c164 λ F hF=>?_;obtain⟨k,a,s⟩:=v;obtain⟨q,b,t⟩:=u;simp only[Val.ord]
 by_cases hk:k=q
 ·subst hk
  by_cases h2:k=2
  ·subst h2;simp[A164,hF,Val.av];refine aB.pure (alT s t) ?_;simp;exact fp
  by_cases h3:a<b
  ·simp[A164,hF,Val.av,h2,h3];exact fp
  by_cases h4:b<a
  ·simp[A164,hF,Val.av,h2,h3,h4];exact fp
  simp[A164,hF,Val.av,h2,h3,h4];exact fp
 simp[A164,hF,Val.av,hk];refine bC.of (eh (l:=[(227,[zI k],λ H n=>.mk (zI (rk k)) H n),(227,[zI q],λ H n=>.mk (zI (rk q)) H n)]) ?_) ?_
 ·intro x hx;simp only[mem_cons,not_mem_nil,or_false]at hx
  rcases hx with rfl|rfl
  ·exact cR (WJ k)
  exact cR (WJ q)
 simp[ab];rw[bX];simp[ab];rw[u9 (λ _ h=>by simp at h;exact ar h.symm hk),bX];simp
 by_cases hr:rk k<rk q
 ·simp[hr,acM];exact fp
 simp[hr,acL];exact fp
theorem agT {k:Int}(h:k=0∨k=1∨k=2∨k=3):rk k=pl k:=by
 rcases h with rfl|rfl|rfl|rfl<;>rfl
theorem Val.jK {v:Val}(h:v.may=true):v.kind=0∨v.kind=1∨v.kind=2∨v.kind=3:=by
 unfold Val.may at h
 by_cases h0:v.kind=0
 ·exact .inl h0
 by_cases h1:v.kind=1
 ·exact .inr (.inl h1)
 by_cases h2:v.kind=2
 ·exact .inr (.inr (.inl h2))
 by_cases h3:v.kind=3
 ·exact .inr (.inr (.inr h3))
 simp[h0,h1,h2,h3]at h
theorem Val.lV {v:Val}(h:v.may=true)(h2:v.kind=2):v.s.length<=64:=by
 unfold Val.may at h;simp[h2]at h;exact h.2
theorem agt (v u:Val)(hv:v.may=true)(hu:u.may=true):aj pG 79 [v.av,u.av] (zI (v.ord u)):=by
 refine pv c79 λ F hF=>?_;have kv:=Val.jK hv;have ku:=Val.jK hu;have lv:=Val.lV hv;have lu:=Val.lV hu;clear hv hu;obtain⟨k,a,s⟩:=v;obtain⟨q,b,t⟩:=u;simp only at kv ku lv lu;simp only[Val.ord];have ev:=agT kv;have eu:=agT ku
 have inj:pl k=pl q↔k=q:=by
  rcases kv with rfl|rfl|rfl|rfl<;>rcases ku with rfl|rfl|rfl|rfl<;>decide
 rw[ev,eu]
 have fin:∀(F:Fr) (H:Hp) (m:Nat),F.get 2=some (.ptr 0 0)->F.get 3=some (.ptr 1 0)->F.get 5=some (zI (pl k))->F.get 6=some (zI (pl q)) ->
   H.get 0=aR 3 [zI k,zI a,.str s]->H.get 1=aR 3 [zI q,zI b,.str t] ->
   VC pG (.seq (.seq wc (.cond (aA 15) (.seq Z1 .ret) .skip)) (.seq (.seq zA (.cond (aA 18) (.seq Z0 .ret) .skip)) (.seq (.seq CG (.cond (aA 21) (.seq ZZ .ret) .skip)) (.seq (.seq IB (.cond (aA 31) (.seq ZY .ret) .skip)) (.seq (.seq Ea (.cond (aA 36) (.seq KU .ret) .skip)) (.seq KT .ret)))))) F H m []
    (kU [aG 4] λ v1 H' _=>e_ H'.get v1 (zI (if k=q then (if k=2 then cmpL s t else if a<b then -1 else if b<a then 1 else 0)else (if pl k<pl q then -1 else 1)))):=by
  intro F H m f2 f3 f5 f6 h0 h1
  by_cases hk:k=q
  ·subst hk
   by_cases h2:k=2
   ·subst h2;simp[wc,zA,CG,ZZ,f2,f3,f5,f6,h0,h1];have:=lv rfl;have:=lu rfl;refine aB.pure (aga s t ae ae) ?_;simp;exact fp
   by_cases h3:a<b
   ·simp[wc,zA,CG,IB,ZY,f2,f3,f5,f6,h0,h1,h2,h3];exact fp
   by_cases h4:b<a
   ·simp[wc,zA,CG,IB,Ea,KU,f2,f3,f5,f6,h0,h1,h2,h3,h4];exact fp
   simp[wc,zA,CG,IB,Ea,KT,f2,f3,f5,f6,h0,h1,h2,h3,h4];exact fp
  by_cases hr:pl k<pl q
  ·simp[wc,Z1,f5,f6,hr,hk];exact fp
  have:pl q<pl k:=by
   have:pl k≠pl q:=λ e=>hk (inj.1 e);omega
  simp[wc,zA,Z0,f5,f6,hr,this,hk];exact fp
 simp[A79,hF,Val.av];refine bC.of (eh (l:=[(158,[zI k],λ H n=>.mk (zI (pl k)) H n),(158,[zI q],λ H n=>.mk (zI (pl q)) H n)]) ?_) ?_
 ·intro x hx;simp only[mem_cons,not_mem_nil,or_false]at hx
  rcases hx with rfl|rfl
  ·exact cR (OH k)
  exact cR (OH q)
 simp[ab];rw[bX];simp[ab];rw[u9 (λ _ h H n=>by simp at h;subst h;rw[bX]),bX];simp;refine fin _ _ _ ?_ ?_ ?_ ?_ ?_ ?_<;>simp[ab]
def Val.cmp (v u:Val):Int×Int:=if v.may&&u.may then (v.ord u,0)else (0,5)
theorem UR (v u:Val):aj pG 89 [v.av,u.av] (.bo [zI (v.cmp u).1,zI (v.cmp u).2]):=by
 refine pv c89 λ F hF=>?_;unfold Val.cmp;simp[A89,hF,Val.av];refine aB.pure (mV v) ?_;generalize hv:v.may=p
 cases p with
 |false =>
  simp[ZS];exact fp
 |true =>
  simp;refine aB.pure (mV u) ?_;generalize hu:u.may=p
  cases p with
  |false =>
   simp[ZS];exact fp
  |true =>
   simp[ahU];refine aB.pure (OK v u) ?_;simp;exact fp
def cM:List Val->List AV
 |[]=>[]
 |v::r=>v.cells++cM r
@[simp] theorem Val.bq (v:Val):v.cells.length=3:=by simp[Val.cells]
@[simp] theorem am2 (l:List Val):(cM l).length=l.length*3:=by
 induction l with
 |nil=>simp[cM]
 |cons e r ih=>simp[cM,ih];omega
theorem Ja (l:List Val)(i:Nat)(h:i<l.length):(cM l).drop (i*3)=l[i].cells++cM (l.drop (i+1)):=by
 induction l generalizing i with
 |nil=>simp at h
 |cons e r ih =>
  cases i with
  |zero=>simp[cM]
  |succ i =>
   have:(i+1)*3=e.cells.length+i*3:=by simp;omega
   rw[cM,this,<-drop_drop,drop_left' rfl];simpa using ih i (by simpa using h)
@[simp] theorem ajy (l:List Val):aP (cM l):=by
 induction l with
 |nil=>simp[cM]
 |cons e r ih=>simp[cM,Val.cells,ih]
theorem fK {l:List Val}{i:Nat}{k:IntKind}(h:i<l.length):cK 3 (.ds (cM l) l.length 3) (.int k (i:Int))=.val (.dp (l[i].cells++cM (l.drop (i+1)))):=by
 rw[ua h,Ja l i h]
theorem gz (v:Val)(r:List AV)(H:Hp):eD 3 (.dp (v.cells++r)) H=.val v.av:=qS r v.bq
theorem O3 (v:Val)(r:List AV)(H:Hp):cE (.dp (v.cells++r)) H=.val (zI v.kind):=Eq.trans rfl rfl
theorem Val.ext_iff (v u:Val):v=u↔v.kind=u.kind/\v.num=u.num/\v.s=u.s:=by
 cases v;cases u;simp
theorem DT (b:Bool) (v u:Val):og b [.i,.i,.s] v.av u.av=.val (.bool (b != decide (v=u))):=by
 obtain⟨k,a,s⟩:=v;obtain⟨q,c,t⟩:=u
 have he:bP [.i,.i,.s] [zI k,zI a,.str s] [zI q,zI c,.str t]=some (decide ((Val.mk k a s)=Val.mk q c t)):=by
  simp only[bP,dY,fB,if_true]
  by_cases h1:k=q
  ·subst h1;rw[show (k == k)=true by simp]
   by_cases h2:a=c
   ·subst h2;rw[show (a == a)=true by simp]
    by_cases h3:s=t
    ·subst h3;simp
    rw[show (s == t)=false by simpa using h3];simp[Val.ext_iff,h3]
   rw[show (a == c)=false by simpa using h2];simp[Val.ext_iff,h2]
  rw[show (k == q)=false by simpa using h1];simp[Val.ext_iff,h1]
 unfold og Val.av;simp only[he];rfl
structure Idx where
 id:Int
 table:Int
 name:List Nat
 cols:List Int
 uniq:Bool
 root:Int
def Idx.cells (x:Idx):List AV:=[.int .u32 x.id,.int .u32 x.table,.str x.name,.ds (cQ x.cols) x.cols.length 1,.bool x.uniq,.int .u32 x.root]
def Idx.av (x:Idx):AV:=.agg x.cells 6
@[simp] theorem Idx.pure (x:Idx):Pure x.av:=by simp[Idx.av,Idx.cells]
structure Spn where
 eq:List Val
 aqm:Bool
 lo:Val
 akD:Bool
 aqn:Bool
 hi:Val
 alc:Bool
def Spn.cells (s:Spn):List AV:=[.ds (cM s.eq) s.eq.length 3,.bool s.aqm,zI s.lo.kind,zI s.lo.num,.str s.lo.s,.bool s.akD,.bool s.aqn,zI s.hi.kind,zI s.hi.num,.str s.hi.s,.bool s.alc]
def Spn.av (s:Spn):AV:=.agg s.cells 11
@[simp] theorem Spn.pure (s:Spn):Pure s.av:=by simp[Spn.av,Spn.cells]
def ay (r:List Val):AV:=.ds (cM r) r.length 3
@[simp] theorem xY (r:List Val):Pure (ay r):=by simp[ay]
structure Ins where
 op:Int
 a:Int
 b:Int
 c:Int
 n:Int
 j:Int
 ex:Int
 id:Int
 lo:Int
 hi:Int
 akD:Bool
 alc:Bool
 v:Val
def Ins.cells (x:Ins):List AV:=[zI x.op,zI x.a,zI x.b,zI x.c,zI x.n,zI x.j,zI x.ex,.int .u32 x.id,zI x.lo,zI x.hi,.bool x.akD,.bool x.alc,zI x.v.kind,zI x.v.num,.str x.v.s]
def Ins.av (x:Ins):AV:=.agg x.cells 15
def Hu:List Ins->List AV
 |[]=>[]
 |x::r=>x.cells++Hu r
@[simp] theorem Ins.bq (x:Ins):x.cells.length=15:=by simp[Ins.cells]
@[simp] theorem ap0 (l:List Ins):(Hu l).length=l.length*15:=by
 induction l with
 |nil=>simp[Hu]
 |cons e r ih=>simp[Hu,ih];omega
theorem Uz (l:List Ins):aP (Hu l):=by
 induction l with
 |nil=>simp[Hu]
 |cons e r ih=>simp[Hu,Ins.cells,ih]
structure Cod where
 avg:Int
 cur:Int
 l:List Ins
def Cod.cells (c:Cod):List AV:=[zI c.avg,zI c.cur,.ds (Hu c.l) c.l.length 15]
def Cod.av (c:Cod):AV:=.agg c.cells 3
@[simp] theorem Cod.pure (c:Cod):Pure c.av:=by simp[Cod.av,Cod.cells,Uz]
@[simp] theorem Ins.pure (x:Ins):Pure x.av:=by simp[Ins.av,Ins.cells]
def cV (a b:Val):Int:=if a.may&&b.may then a.ord b else if a.may then -1 else if b.may then 1 else 0
def dK:List Val->List Val->Int
 |a::l,b::m=>if cV a b≠0 then cV a b else dK l m
 |l,m=>(l.length:Int) - (m.length:Int)
def rO:List Val->List Val->Int
 |a::l,b::m=>if a.ord b≠0 then a.ord b else rO l m
 |[],[]=>0
 |[],_::_ => -1
 |_::_,[]=>1
theorem TK {l m:List Val}{i:Nat}(hl:i<l.length)(hm:i<m.length):dK (l.drop i) (m.drop i)=if cV l[i] m[i]≠0 then cV l[i] m[i]else dK (l.drop (i+1)) (m.drop (i+1)):=by
 rw[ga hl,ga hm,dK]
theorem TJ {l m:List Val}{i:Nat}(hl:i<l.length)(hm:i<m.length):rO (l.drop i) (m.drop i)=if l[i].ord m[i]≠0 then l[i].ord m[i]else rO (l.drop (i+1)) (m.drop (i+1)):=by
 rw[ga hl,ga hm,rO]
theorem V7 {l m:List Val}{i:Nat}(h1:i<=l.length)(h2:i<=m.length)(h:i=l.length∨i=m.length):dK (l.drop i) (m.drop i)=(l.length:Int) - (m.length:Int):=by
 have:l.drop i=[]∨m.drop i=[]:=by
  rcases h with rfl|rfl
  ·exact .inl (drop_length ..)
  exact .inr (drop_length ..)
 rcases this with e|e
 ·have h':l.length - i=0:=by rw[<-length_drop,e];rfl
  rw[e,dK.eq_2 _ _ (by rintro a l' b m' h;cases h)];simp;omega
 have h':m.length - i=0:=by rw[<-length_drop,e];rfl
 rw[e,dK.eq_2 _ _ (by rintro a l' b m' _ h;cases h)];simp;omega
theorem V6 {l m:List Val}{i:Nat}(h1:i<=l.length)(h2:i<=m.length)(h:i=l.length∨i=m.length):rO (l.drop i) (m.drop i)=if l.length<m.length then -1 else if m.length<l.length then 1 else 0:=by
 rcases Nat.lt_trichotomy l.length m.length with c|c|c
 ·obtain rfl:i=l.length:=ae;rw[drop_length,ga c,aw c];rfl
 ·have:i=l.length:=ae;subst this;rw[drop_length,c,drop_length,ai ae,ai ae];rfl
 obtain rfl:i=m.length:=ae;rw[drop_length,ga c,ai ae,aw c];rfl
theorem C_ (l m:List Val) (hl:l.length<=1048576) (hm:m.length<=1048576):aj pG 40 [ay l,ay m] (zI (dK l m)):=by
 refine pv c40 λ F hF=>?_
 have hmin:Hh .i64 (l.length:Int) [zI (m.length:Int)]=some (zI ((min l.length m.length:Nat):Int)):=by
  unfold Hh;simp[Hh];omega
 obtain⟨M,hM⟩:∃M,M=min l.length m.length:=⟨_,rfl⟩;rw[<-hM]at hmin;simp[A40,hF,ay,y6,Uj,hmin];refine aE.of (λ k F K n ms=>∃i,k=M - i/\i<=l.length/\i<=m.length/\F.get 0=some (ay l)/\F.get 1=some (ay m)/\F.get 12=some (zI (M:Int))/\F.get 13=some (zI (i:Int))/\K=.nil/\ms=[]/\dK l m=dK (l.drop i) (m.drop i)) M ⟨0,by simp[hF,ay]⟩ ?_;rintro k F K n ms ⟨i,rfl,hi,hib,f0,f1,f12,f13,rfl,rfl,he⟩
 by_cases hlt:i<M
 ·have h1 : i<l.length:=ae;have h2:i<m.length:=ae;have hx:=fK (k:=.i64) h1;have hy:=fK (k:=.i64) h2;rw[TK h1 h2]at he;simp[ady,f12,f13,hlt];refine bC.of (eh (l:=[(89,[l[i].av,m[i].av],λ H n=>.mk (.bo [zI (l[i].cmp m[i]).1,zI (l[i].cmp m[i]).2]) H n)]) ?_) ?_
  ·intro x hx;simp only[mem_cons,not_mem_nil,or_false]at hx;subst hx;exact cR (UR l[i] m[i])
  simp[ab,f0,f1,ay,hx,hy,gz];rw[bX];have w:=aD i ae;unfold cV at he;unfold Val.cmp
  by_cases ha:l[i].may=true
  ·by_cases hb:m[i].may=true
   ·rw[ha,hb]at he ⊢;simp at he ⊢
    by_cases hc:l[i].ord m[i]=0
    ·rw[aw hc]at he;simp[IC,vm,hc,Ls,ab,f13,w,f0,f1,f12,ay];exact⟨M - (i+1),ae,i+1,rfl,ae,ae,ae,he⟩
    rw[ai hc]at he;simp[IC,vm,hc,Ec,he];exact fp
   have hb:m[i].may=false:=by simpa using hb
   rw[ha,hb]at he ⊢;simp at he ⊢;simp[IC,aaP,aaO,ab,f0,ay,hx,gz];refine aB.pure (mV l[i]) ?_;simp[ha,aiq,vm,Ec,he];exact fp
  have ha:l[i].may=false:=by simpa using ha
  rw[ha]at he ⊢;simp at he ⊢;simp[IC,aaP,aaO,ab,f0,ay,hx,gz];refine aB.pure (mV l[i]) ?_;simp[ha,aip,ab,f1,ay,hy,gz];refine aB.pure (mV m[i]) ?_
  by_cases hb:m[i].may=true
  ·rw[hb]at he ⊢;simp at he;simp[aaR,vm,Ec,he];exact fp
  have hb:m[i].may=false:=by simpa using hb
  rw[hb]at he ⊢;simp at he;simp[vm,Ls,ab,f13,w,f0,f1,f12,ay];exact⟨M - (i+1),ae,i+1,rfl,ae,ae,ae,he⟩
 have e:i=M:=ae;rw[V7 hi hib ae]at he;simp[ady,f12,f13,hlt,aaQ,f0,f1,ay,dW ((l.length:Int) - (m.length:Int)) ae ae,he];exact fp
theorem ags (l m:List Val) (hl:l.length<=1048576) (_hm:m.length<=1048576) (al:∀v∈l,v.may=true) (am:∀v∈m,v.may=true):aj pG 30 [ay l,ay m] (zI (rO l m)):=by
 refine pv c30 λ F hF=>?_;obtain⟨M,hM⟩:∃M,M=min l.length m.length:=⟨_,rfl⟩;simp[A30];refine aE.of (λ k F K n ms=>∃i,k=M - i/\i<=l.length/\i<=m.length/\F.get 0=some (ay l)/\F.get 1=some (ay m)/\F.get 5=some (zI (i:Int))/\K=.nil/\ms=[]/\rO l m=rO (l.drop i) (m.drop i)) M ⟨0,by simp[hF,ay]⟩ ?_;rintro k F K n ms ⟨i,rfl,hi,hib,f0,f1,f5,rfl,rfl,he⟩
 by_cases hlt:i<M
 ·have h1:i<l.length:=ae;have h2:i<m.length:=ae;have hx:=fK (k:=.i64) h1;have hy:=fK (k:=.i64) h2;rw[TJ h1 h2]at he;simp[IP,f0,f1,f5,ay,h1,h2];refine bC.of (eh (l:=[(79,[l[i].av,m[i].av],λ H n=>.mk (zI (l[i].ord m[i])) H n)]) ?_) ?_
  ·intro x hx;simp only[mem_cons,not_mem_nil,or_false]at hx;subst hx;exact cR (agt l[i] m[i] (al _ (dw _)) (am _ (dw _)))
  simp[ab,f0,f1,f5,ay,hx,hy,gz];rw[bX];have w:=aD i ae;simp[aiJ]
  by_cases hc:l[i].ord m[i]=0
  ·rw[ai (by simp[hc])]at he;simp[hc,aiH,ab,f0,f1,f5,w,ay];exact⟨M - (i+1),ae,i+1,rfl,ae,ae,ae,he⟩
  rw[aw hc]at he;simp[hc,aiI,he];exact fp
 rw[V6 hi hib ae]at he
 by_cases c1:i<l.length
 ·have c2:¬i<m.length:=ae;have c9003:m.length<l.length:=ae;have c9004:¬l.length<m.length:=ae;simp[IP,f0,f1,f5,ay,c1,c2,c9003,c9004,Qx,abf,abh,he];exact fp
 by_cases c2:l.length<m.length
 ·simp[IP,f0,f1,f5,ay,c1,c2,Qx,aiG,he];exact fp
 have c9003:¬m.length<l.length:=ae;simp[IP,f0,f1,f5,ay,c1,c2,c9003,Qx,abf,abg,he];exact fp
theorem amz (l m:List Val) (hl:l.length<=1048576):aj pG 35 [ay l,ay m] (.bool (decide (l=m))):=by
 refine pv c35 λ F hF=>?_;simp[A35,hF,ay]
 by_cases hlm:l.length=m.length
 ·simp[hlm,aiE];refine aE.of (λ k F K n ms=>∃i,k=l.length - i/\i<=l.length/\F.get 0=some (ay l)/\F.get 1=some (ay m)/\F.get 5=some (zI (i:Int))/\K=.nil/\ms=[]/\(l=m↔l.drop i=m.drop i)) l.length ⟨0,by simp[hF,ay]⟩ ?_;rintro k F K n ms ⟨i,rfl,hi,f0,f1,f5,rfl,rfl,he⟩
  by_cases hlt:i<l.length
  ·have h2:i<m.length:=ae;have hx:=fK (k:=.i64) hlt;have hy:=fK (k:=.i64) h2;rw[ga hlt,ga h2,List.cons.injEq]at he;simp[adB,f0,f5,ay,hlt];refine bC.of (bh (P:=pG)) ?_;simp[ab,f0,f1,f5,ay,hx,hy,gz,DT]
   by_cases hc:l[i]=m[i]
   ·have w:=aD i ae;simp[hc,aiC,ab,f0,f1,f5,w,ay];exact⟨l.length - (i+1),ae,i+1,rfl,ae,ae,by rw[he];simp[hc]⟩
   have:¬l=m:=λ e=>hc (he.1 e).1;simp[hc,aiD,this];exact fp
  have e:i=l.length:=ae;have:l=m:=he.2 (by rw[e,drop_length,hlm,drop_length]);subst this;simp[adB,f0,f5,ay,hlt,aiB];exact fp
 have:¬l=m:=λ e=>hlm (by rw[e]);simp[hlm,aiF,this];exact fp
def aJ (L:List (List Val)):List AV:=L.map ay
@[simp] theorem am' (L:List (List Val)):(aJ L).length=L.length:=by simp[aJ]
@[simp] theorem ajM (L:List (List Val)):aP (aJ L):=aP.rW λ v hv=>by
 simp only[aJ,mem_map]at hv;obtain⟨i,_,rfl⟩:=hv;simp
theorem Jl (l:List (List Val))(i:Nat)(h:i<l.length):(aJ l).drop i=ay l[i]::aJ (l.drop (i+1)):=by
 rw[aJ,<-map_drop,ga h];rfl
theorem iQ {l:List (List Val)}{i:Nat}{k:IntKind}(h:i<l.length):cK 1 (.ds (aJ l) l.length 1) (.int k (i:Int))=.val (.dp (ay l[i]::aJ (l.drop (i+1)))):=by
 rw[ua h,Nat.mul_one,Jl l i h]
theorem U7 (L M:List (List Val)) (hL:L.length<=1048576) (hl:∀l∈L,l.length<=1048576):aj pG 16 [.ds (aJ L) L.length 1,.ds (aJ M) M.length 1] (.bool (decide (L=M))):=by
 refine pv c16 λ F hF=>?_;simp[A16,hF]
 by_cases hlm:L.length=M.length
 ·simp[hlm,ai2];refine aE.of (λ k F K n ms=>∃i,k=L.length - i/\i<=L.length/\F.get 0=some (.ds (aJ L) L.length 1)/\F.get 1=some (.ds (aJ M) M.length 1)/\F.get 5=some (zI (i:Int))/\K=.nil/\ms=[]/\(L=M↔L.drop i=M.drop i)) L.length ⟨0,by simp[hF]⟩ ?_;rintro k F K n ms ⟨i,rfl,hi,f0,f1,f5,rfl,rfl,he⟩
  by_cases hlt:i<L.length
  ·have h2:i<M.length:=ae;have hx:=iQ (k:=.i64) hlt;have hy:=iQ (k:=.i64) h2;rw[ga hlt,ga h2,List.cons.injEq]at he;simp[adJ,f0,f5,hlt];refine bC.of (eh (l:=[(35,[ay L[i],ay M[i]],λ H n=>.mk (.bool (decide (L[i]=M[i]))) H n)]) ?_) ?_
   ·intro x hx;simp only[mem_cons,not_mem_nil,or_false]at hx;subst hx;exact cR (amz L[i] M[i] (hl _ (dw _)))
   simp[ab,f0,f1,f5,hx,hy];rw[bX]
   by_cases hc:L[i]=M[i]
   ·have w:=aD i ae;simp[hc,ai0,ab,f0,f1,f5,w];exact⟨L.length - (i+1),ae,i+1,rfl,ae,ae,by rw[he];simp[hc]⟩
   have:¬L=M:=λ e=>hc (he.1 e).1;simp[hc,ai1,this];exact fp
  have e:i=L.length:=ae;have:L=M:=he.2 (by rw[e,drop_length,hlm,drop_length]);subst this;simp[adJ,f0,f5,hlt,aiZ];exact fp
 have:¬L=M:=λ e=>hlm (by rw[e]);simp[hlm,ai3,this];exact fp
def Af (c:oS)(v:Val):Int:=if v.may=false then 5 else if v.kind≠0/\v.kind≠c.kind then 30 else if v.kind=0/\c.need=true then 50 else 0
def DN:List oS->List Val->Int
 |c::cs,v::vs=>if Af c v=0 then DN cs vs else Af c v
 |_,_=>0
theorem UE {c:List oS}{v:List Val}{i:Nat}(h1:i<c.length)(h2:i<v.length):DN (c.drop i) (v.drop i)=if Af c[i] v[i]=0 then DN (c.drop (i+1)) (v.drop (i+1))else Af c[i] v[i]:=by
 rw[ga h1,ga h2];rfl
def sK (c:List oS)(v:List Val):Int:=if kg c/\v.length=c.length then DN c v else 1
theorem YB (c : List oS) (v:List Val) (hv:v.length<=aU):aj pG 38 [dL.ds c,ay v] (zI (sK c v)):=by
 unfold aU at hv;refine pv c38 λ F hF=>?_;unfold sK;simp[A38,hF];refine aB.pure (ag2 c) ?_
 by_cases hc:kg c
 ·by_cases hl:v.length=c.length
  ·simp[hc,hF,ay,aZ.aM,hl,aix];refine aE.of (λ k F K n ms=>∃i,k=v.length - i/\i<=v.length/\F.get 0=some (dL.ds c)/\F.get 17=some (ay v)/\F.get 18=some (zI (v.length:Int))/\F.get 19=some (zI (i:Int))/\ms=[]/\DN c v=DN (c.drop i) (v.drop i)) v.length ⟨0,by simp[hF,ay,hl]⟩ ?_;rintro k F K n ms ⟨i,rfl,hi,f0,f17,f18,f19,rfl,he⟩
   by_cases hlt:i<v.length
   ·have hx:=fK (k:=.i64) hlt;have hy:=dL.ix (ik:=.i64) (l:=c) (i:=i) ae;rw[u3]at hy;rw[UE ae hlt]at he;rw[ay]at f17;rw[he];generalize v[i]=u at *;generalize c[i]=d at *;have hm:=mV u;simp only[Val.av]at hm;simp[adA,f18,f19,hlt,f17,hx,gz,Val.av];refine aB.pure hm ?_
    by_cases h1:u.may=true
    ·simp[h1,aiv];refine bC.of (bh (P:=pG)) ?_
     by_cases h2:u.kind=0
     ·by_cases h3:d.need=true
      ·simp[ab,f0,hy,h2,Ed,h3,aaU,Af,h1];exact fp
      simp[ab,f0,hy,h2,Ed,h3,Lt,Af,h1,f17,f18,f19,aD i ae];exact⟨_,ae,i+1,rfl,hlt,by simp[ay],rfl,ah⟩
     by_cases h3:u.kind=d.kind
     ·simp[ab,f0,hy,h3,Ed,Lt,Af,h1,f17,f18,f19,aD i ae,show ¬d.kind=0 by omega];exact⟨_,ae,i+1,rfl,hlt,by simp[ay],rfl,ah⟩
     simp[ab,f0,hy,h2,h3,aiu,Af,h1];exact fp
    simp[h1,aiw,Af];exact fp
   obtain rfl:i=v.length:=ae;rw[he];simp[adA,f18,f19,aaT,DN];exact fp
  simp[hc,hF,ay,aZ.aM,hl,aaS];exact fp
 simp[hc,aaS];exact fp
def BC (H:Hp):List Nat->Hp
 |[]=>H
 |b::r=>(BC H r).put b none
def xH (H:Hp):List (Nat×List AV)->Hp
 |[]=>H
 |e::r=>(xH H r).put e.1 (some (.cells e.2.length [] e.2 .nil))
theorem mW (H:Hp)(L:List Nat)(c:Nat):(BC H L).get c=if c∈L then none else H.get c:=by
 induction L with
 |nil=>simp[BC]
 |cons b r ih =>
  simp only[BC,Tr.get_put,ih,mem_cons]
  by_cases h:c=b
  ·simp[h]
  simp[h]
theorem mM (H:Hp)(M:List (Nat×List AV))(c:Nat)(h:c∉M.map (·.1)):(xH H M).get c=H.get c:=by
 induction M with
 |nil=>rfl
 |cons e r ih =>
  simp only[map_cons,mem_cons,not_or]at h;simp only[xH,Tr.get_put,ai h.1,ih h.2]
theorem tj (H:Hp)(M:List (Nat×List AV))(hd:(M.map (·.1)).Nodup):∀e∈M,(xH H M).get e.1=some (.cells e.2.length [] e.2 .nil):=by
 induction M with
 |nil=>intro e h;simp at h
 |cons a r ih =>
  simp only[map_cons,nodup_cons]at hd;intro e h;simp only[xH,Tr.get_put]
  rcases mem_cons.1 h with rfl|h
  ·simp
  have:e.1≠a.1:=λ e2=>hd.1 (e2▸mem_map_of_mem h);rw[ai this,ih hd.2 e h]
theorem ak.Bj {P:Program}{g:FuncId}{args:List AV}{H:Hp}{n n':Nat}{v0:AV}(L:List Nat) (M:List (Nat×List AV)) (ha:dJ n args) (hL:∀b∈L,b<n) (hx:∀b∈L,H.get b≠none) (hb:∀b∈L,∀k,H.get b=some k->wN n k)
  (hn:n<=n')(hd:(M.map (·.1)).Nodup)(hM:∀e∈M,e.1∈L∨(n<=e.1/\e.1<n'))(h:ak P g args (pick H L) n (λ v K k=>v=v0/\(∀e∈M,∃y,K.get e.1=some y/\OwnB y e.2)/\k<=n')):
  ∃H1,bu P g args H n v0 H1 n'/\(∀e∈M,H1.get e.1=some (.cells e.2.length [] e.2 .nil))/\(∀c,c∉L->c<n∨n'<=c->H1.get c=H.get c):=by
 have hout:∀c,c∉L->c<n∨n'<=c->c∉M.map (·.1):=λ c h1 h2 h3=>by
  obtain⟨e,h4,rfl⟩:=mem_map.1 h3
  rcases hM e h4 with h5|h5
  ·exact h1 h5
  omega
 refine⟨xH (BC H (L++range' n (n' - n))) M,ak.okS (S:=pick H L) (S':=xH (BC .nil (L++range' n (n' - n))) M) (h.mono λ v K k ⟨h1,h2,h3⟩=>⟨h1,λ b y hy=>?_,h3⟩) hn ha (λ b k hk=>?_) (λ b k hk=>?_) (λ b hb=>?_) (λ b hb1 hb2=>?_),tj _ M hd,λ c h1 h2=>?_⟩
 ·by_cases h4:b∈M.map (·.1)
  ·obtain⟨e,h5,rfl⟩:=mem_map.1 h4;rw[tj _ M hd e h5]at hy;injection hy with hy;obtain⟨y',h6,h7⟩:=h2 e h5;exact⟨y',h6,hy▸h7.ble rfl⟩
  rw[mM _ _ _ h4,mW]at hy
  split at hy<;>simp at hy
 ·rw[eP]at hk
  split at hk
  ·rename_i hm;exact⟨hL b hm,hb b hm k hk⟩
  cases hk
 ·rw[eP]at hk
  split at hk
  ·exact hk
  cases hk
 ·by_cases h4:b∈M.map (·.1)
  ·obtain⟨e,h5,rfl⟩:=mem_map.1 h4;rw[tj _ M hd e h5,tj _ M hd e h5]
  rw[mM _ _ _ h4,mM _ _ _ h4,mW,mW];rw[eP]at hb;rw[aw,aw]
  all_goals
   rw[mem_append,mem_range'_1]
   rcases hb with hb|hb
   ·split at hb
    ·rename_i hm;exact .inl hm
    exact ar rfl hb
   exact .inr ae
 ·by_cases hm:b∈L
  ·rw[eP,aw hm]at hb1;exact ar hb1 (hx b hm)
  rw[mM _ _ _ (hout b hm ae),mW,ai];rw[mem_append,mem_range'_1];rintro(h|h)
  ·exact hm h
  omega
 rw[mM _ _ _ (hout c h1 h2),mW,ai];rw[mem_append,mem_range'_1];rintro(h|h)
 ·exact h1 h
 omega
theorem dI (k j:IntKind)(a:Int):bV k (.int j a)=.val (.int k (k.wrap a)):=by
 simp only[bV,kG]
def ig (l:List Nat):List AV:=l.map λ b:Nat=>.int .u8 (b:Int)
@[simp] theorem auL (l:List Nat):(ig l).length=l.length:=by simp[ig]
theorem D7 (a b:List Nat):ig (a++b)=ig a++ig b:=by simp[ig]
theorem Y_ (l:List Nat):fM (ig l):=by
 induction l with
 |nil=>simp[ig]
 |cons a r ih=>simpa[ig]using ih
theorem uc (l:List Nat):br (ig l)=true:=by
 induction l with
 |nil=>rfl
 |cons a r ih=>simpa[ig]using ih
@[simp] theorem axs (c:Bool)(b o:Nat):kT c .ptr (.ptr b o) (.aV (.pointer none))=.val (.bool c):=by cases c<;>exact Eq.trans rfl rfl
theorem qR (k j:IntKind)(a b:Int)(h:0<=b):eR .shr (.int k a) (.int j b)=.val (.int k (a.fdiv (2 ^ (min b.toNat k.bits)))):=by
 obtain⟨b,rfl⟩:=Int.eq_ofNat_of_zero_le h;simp only[eR,kG];rfl
theorem xb (k j:IntKind)(a b:Int)(h:0<=b):eR .shl (.int k a) (.int j b)=.val (.int k (k.wrap (a*2 ^ (min b.toNat k.bits)))):=by
 obtain⟨b,rfl⟩:=Int.eq_ofNat_of_zero_le h;simp only[eR,kG];rfl
theorem Cc (k:IntKind)(a b:Int):bS .or k a b=.val (.int k (k.wrap (BitVec.ofInt k.bits a ||| BitVec.ofInt k.bits b).toNat)):=by simp[bS]
theorem sV (k:IntKind)(a b:Int):bS .xor k a b=.val (.int k (k.wrap (BitVec.ofInt k.bits a ^^^ BitVec.ofInt k.bits b).toNat)):=by simp[bS]
@[simp] theorem auK:bR .or=uQ (bS .or):=Eq.trans rfl rfl
@[simp] theorem arP:bR .xor=uQ (bS .xor):=Eq.trans rfl rfl
structure nw (H:Hp)(n p:Nat)(v:AV)(l:List Nat):Prop where
 hp:H.get p=aR 2 [.bool true,v]
 pn:p<n
 hv:(v=.aV (.slice none 0 0)/\l=[])∨∃b,v=.sl b 0 l.length 1/\b<n/\b≠p/\H.get b=some (.cells l.length [] (ig l) .nil)/\0<l.length
def NY (p:Nat)(v:AV):List Nat:=p::(blk v).toList
theorem AB {x:Nat}(h:x<256):IntKind.u8.wrap (x:Int)=(x:Int):=by simp[IntKind.wrap,IntKind.signed,IntKind.bits];omega
theorem pC {x:Nat}(h:x<18446744073709551616):IntKind.u64.wrap (x:Int)=(x:Int):=by simp[IntKind.wrap,IntKind.signed,IntKind.bits];omega
theorem aeK {H:Hp}{n p:Nat}{v:AV}{l:List Nat}(ht:dh H n)(W:nw H n p v l)(x:Nat)(hx:x<256)(hl:l.length<1048576):
  ak pG 229 [.ptr p 0,.int .u8 (x:Int),zI 1] H n (λ u K k=>u=.bo []/\K.get p=aR 2 [.bool true,.sl (n+1) 0 (l.length+1) 1]/\(∃y,K.get (n+1)=some y/\OwnB y (ig (l++[x])))/\k=n+2):=by
 obtain⟨hp,pn,hv⟩:=W;have z:=ht.none;have e1:=ky pn;have e2:=Vj pn;refine ak.of c229 (by simp[A229]) λ F hF=>?_;simp[A229,hF,hp];refine aE.XC 1 (fL.step ?_);simp[adH];refine bC.of (bh (P:=pG)) ?_;have s1:eR .shr (.int .u64 (x:Int)) (zI 0)=.val (.int .u64 (x:Int)):=by rw[qR _ _ _ _ ae];simp
 simp[ab,hF,hp,cN,dm,z,pC (show x<18446744073709551616 by omega),AB hx,s1,dW,dI]
 rcases hv with⟨rfl,rfl⟩|⟨b,rfl,hbn,hbp,hb,hl0⟩
 ·rw[Y7 (new:=ig [x]) (k:=1) (bD (by simp[ig])) ah ae ae (by unfold big;omega) ae (uc _)];simp[ab,hF,hp,e1,MF,dW];refine fL.step ?_;simp[ab,e2];exact .list ah
 have hpb:¬p=b:=λ e=>hbp e.symm;have b1:=ky hbn;have b2:=Vj hbn;rw[al_ (new:=ig [x]) (k:=1) (b:=b) (u:=l.length) (z:=[]) (bs:=ig l) (t:=.nil) (by simp[b1,hb]) ae (bD (by simp[ig])) ah ae ae (by unfold big;omega) ae (uc _)];simp[ab,hF,hp,e1,hpb,MF,dW];refine fL.step ?_;simp[D7,ab,e2];have:=OwnB.app (u:=l.length) (z:=[]) (bs:=ig l) (l:=ig l) (new:=ig [x]) (t:=.nil) (OwnB.list ah) (by simp[ig]);simpa using this
theorem vC {g:FuncId}{args:List AV}{H:Hp}{n n' p b':Nat}{v:AV}{l new:List Nat}(W:nw H n p v l) (ha:dJ n args) (hn:n<=b'/\b'<n') (hl:0<(l++new).length)
  (h:∀S,dh S n->nw S n p v l->ak pG g args S n (λ u K k=>u=.bo []/\K.get p=aR 2 [.bool true,.sl b' 0 (l++new).length 1]/\(∃y,K.get b'=some y/\OwnB y (ig (l++new)))/\k=n')):
  ∃H1,bu pG g args H n (.bo []) H1 n'/\nw H1 n' p (.sl b' 0 (l++new).length 1) (l++new)/\∀c,c∉NY p v->c<n∨n'<=c->H1.get c=H.get c:=by
 have W0:=W;obtain⟨hp,pn,hv⟩:=W
 have hL:∀c∈NY p v,c<n/\H.get c≠none/\∀k,H.get c=some k->wN n k:=by
  intro c hc
  rcases mem_cons.1 hc with rfl|hc
  ·refine⟨pn,by rw[hp];simp,λ k hk=>?_⟩;rw[hp]at hk;injection hk with hk;subst hk;refine bU ?_
   rcases hv with⟨rfl,_⟩|⟨b,rfl,hb,_⟩
   ·simp
   simp[hb]
  rcases hv with⟨rfl,_⟩|⟨b,rfl,hb,_,hg,_⟩
  ·simp at hc
  simp at hc;subst hc;refine⟨hb,by rw[hg];simp,λ k hk=>?_⟩;rw[hg]at hk;injection hk with hk;subst hk;exact bU (Y_ l).jU
 have hS:nw (pick H (NY p v)) n p v l:=by
  refine⟨by rw[fH (by simp[NY]),hp],pn,?_⟩
  rcases hv with h|⟨b,rfl,h1,h2,h3,h4⟩
  ·exact .inl h
  exact .inr ⟨b,rfl,h1,h2,by rw[fH (by simp[NY]),h3],h4⟩
 obtain⟨H1,h1,h2,h3⟩:=ak.Bj (n':=n') (NY p v) [(p,[.bool true,.sl b' 0 (l++new).length 1]),(b',ig (l++new))] ha (λ c hc=>(hL c hc).1) (λ c hc=>(hL c hc).2.1) (λ c hc=>(hL c hc).2.2) ae (by simp;omega) (by
  intro e he;simp at he
  rcases he with rfl|rfl
  ·exact .inl (by simp[NY])
  exact .inr hn) ((h _ (lx λ c hc=>(hL c hc).1) hS).mono λ u K k ⟨a1,a2,a3,a4⟩=>⟨a1,λ e he=>by
  simp only[mem_cons,not_mem_nil,or_false]at he
  rcases he with rfl|rfl
  ·exact⟨_,a2,.list rfl⟩
  exact a3,ae⟩)
 have q1:=h2 _ (mem_cons_self ..);have q2:=h2 _ (mem_cons_of_mem _ (mem_cons_self ..));exact⟨H1,h1,⟨by simpa using q1,ae,.inr ⟨b',rfl,hn.2,ae,by simpa using q2,hl⟩⟩,h3⟩
theorem ajZ {H:Hp}{n p:Nat}{v:AV}{l:List Nat}(W:nw H n p v l)(x:Nat)(hx:x<256)(hl:l.length<1048576):
  ∃H1,bu pG 229 [.ptr p 0,.int .u8 (x:Int),zI 1] H n (.bo []) H1 (n+2)/\nw H1 (n+2) p (.sl (n+1) 0 (l++[x]).length 1) (l++[x])/\∀c,c∉NY p v->c<n∨n+2<=c->H1.get c=H.get c:=
 vC W (by simp[W.pn]) ae ah λ S ht WS=>by simpa using aeK ht WS x hx hl
theorem CO {H:Hp}{n p:Nat}{v:AV}{l:List Nat}(W:nw H n p v l)(x:Nat)(hx:x<256)(hl:l.length<1048576):
  ∃H1,bu pG 167 [.ptr p 0,.int .u8 (x:Int)] H n (.bo []) H1 (n+2)/\nw H1 (n+2) p (.sl (n+1) 0 (l++[x]).length 1) (l++[x])/\∀c,c∉NY p v->c<n∨n+2<=c->H1.get c=H.get c:=
 vC W (by simp[W.pn]) ae ah λ S _ WS=>by
  obtain⟨H1,h1,h2,_⟩:=ajZ WS x hx hl;refine ak.of c167 (by simp[A167]) λ F hF=>?_;simp[A167,hF];refine aB.ok h1 ?_;simp
  rcases h2.hv with⟨h,_⟩|⟨b,h,_,_,h3,_⟩
  ·cases h
  injection h with h;subst h;exact⟨by simpa using h2.hp,_,h3,.list ah⟩
def ep (n:Nat):List Nat:=if n<=127 then [n]else (n % 128+128)::ep (n / 128)
 termination_by n
 decreasing_by omega
theorem mL (n:Nat):0<(ep n).length:=by unfold ep;split<;>simp
theorem xF (k n:Nat)(h:n<128 ^ (k+1)):(ep n).length<=k+1:=by
 induction k generalizing n with
 |zero=>unfold ep;rw[aw ae];simp
 |succ k ih =>
  unfold ep
  split
  ·simp
  have:=ih (n / 128) (by rw[Nat.div_lt_iff_lt_mul ae];rwa [Nat.pow_succ]at h);simp;omega
theorem AA (n:Nat):∀b∈ep n,b<256:=by
 induction n using ep.induct with
 |case1 n h=>unfold ep;rw[aw h];simp;omega
 |case2 n h ih=>unfold ep;rw[ai h];simp only[mem_cons,forall_eq_or_imp];exact⟨ae,ih⟩
theorem ape:∀x:Fin 256,(BitVec.ofInt 8 (x.val:Int) ||| BitVec.ofInt 8 128).toNat=x.val % 128+128:=by decide
theorem akc {x:Nat}:IntKind.u8.wrap (BitVec.ofInt IntKind.u8.bits (IntKind.u8.wrap (x:Int)) ||| BitVec.ofInt IntKind.u8.bits 128).toNat=((x % 128+128:Nat):Int):=by
 have h1:IntKind.u8.wrap (x:Int)=((x % 256:Nat):Int):=by simp[IntKind.wrap,IntKind.signed,IntKind.bits]
 have h2:=ape ⟨x % 256,ae⟩;rw[h1]
 have h3:(BitVec.ofInt IntKind.u8.bits ((x % 256:Nat):Int) ||| BitVec.ofInt IntKind.u8.bits 128).toNat=x % 128+128:=by
  refine Eq.trans h2 ?_;show x % 256 % 128+128=_;omega
 rw[h3,AB ae]
theorem avz (x:Nat):bS .or .u8 (IntKind.u8.wrap (x:Int)) 128=.val (.int .u8 ((x % 128+128:Nat):Int)):=by rw[Cc,akc]
theorem N8 {H:Hp}{n p:Nat}{v:AV}{l:List Nat}(W:nw H n p v l) (x:Nat) (hx:x<18446744073709551616) (hl:l.length<1048000):
  ∃H1,bu pG 286 [.ptr p 0,.int .u64 (x:Int)] H n (.bo []) H1 (n+2*(ep x).length)/\nw H1 (n+2*(ep x).length) p (.sl (n+2*(ep x).length - 1) 0 (l++ep x).length 1) (l++ep x)/\∀c,c∉NY p v->c<n∨n+2*(ep x).length<=c->H1.get c=H.get c:=
 vC W (by simp[W.pn]) (by have:=mL x;omega) (by have:=mL x;simp;omega) λ S ht WS=>by
  have hxl:(ep x).length<=10:=xF 9 x ae;refine ak.of c286 (by simp[A286]) λ F hF=>?_;simp[A286];refine aE.of (λ k F K m ms=>∃(y:Nat) (u:AV) (d:List Nat),k=y/\y<18446744073709551616/\F.get 0=some (.ptr p 0)/\F.get 1=some (.int .u64 (y:Int))/\ms=[]/\nw K m p u (l++d)/\ep x=d++ep y/\m=n+2*d.length) x ⟨x,v,[],by simp[hF,hx,WS]⟩ ?_;clear hF F;rintro k F K m ms ⟨y,u,d,hk,hy,f0,f1,rfl,WK,hd,rfl⟩;have hdl:d.length<=10:=by have:=congrArg length hd;simp at this;omega
  by_cases h:y<=127
  ·simp[M8,f1,show ¬(127:Int)<(y:Int) by omega];have e:ep y=[y]:=by unfold ep;rw[aw h]
   obtain⟨H1,h1,h2,_⟩:=CO WK y ae (by simp;omega);simp[abp,f0,f1,dI,AB (show y<256 by omega)];refine aB.ok h1 ?_;rw[e]at hd;have el:(ep x).length=d.length+1:=by rw[hd];simp
   rw[hd,<-append_assoc];simp
   rcases h2.hv with⟨h,_⟩|⟨b,h,_,_,h3,_⟩
   ·cases h
   injection h with h;subst h;have hp':=h2.hp;simp only[append_assoc,length_append,length_singleton]at hp' h3;rw[show n+2*(d.length+1) - 1=n+2*d.length+1 by omega];exact⟨hp',⟨_,h3,.list ah⟩,ae⟩
  simp[M8,f1,show (127:Int)<(y:Int) by omega];have e:ep y=(y % 128+128)::ep (y / 128):=by rw[ep,ai h]
  obtain⟨H1,h1,h2,_⟩:=CO WK (y % 128+128) ae (by simp;omega);simp[abr,f0,f1,dI,avz];refine aB.ok h1 ?_
  have s7:eR .shr (.int .u64 (y:Int)) (.int .u64 7)=.val (.int .u64 ((y / 128:Nat):Int)):=by
   rw[qR _ _ _ _ ae];simp[IntKind.bits,Int.fdiv_eq_ediv_of_nonneg]
  simp[abq,f0,f1,s7];exact⟨y / 128,ae,ae,ae,_,d++[y % 128+128],by simpa using h2,by rw[hd,e];simp,by simp;omega⟩
structure Val.nD (v:Val):Prop where
 lo : -9223372036854775808<=v.num
 hi:v.num<9223372036854775808
 b:∀c∈v.s,c<256
def zz (x:Int):Nat:=if 0<=x then (2*x).toNat else (-2*x - 1).toNat
theorem agG {x:Int}(h1 : -9223372036854775808<=x)(h2:x<9223372036854775808):zz x<18446744073709551616:=by unfold zz;split<;>omega
theorem ajB (s:List Nat):Vx s=ig s:=by
 induction s with
 |nil=>rfl
 |cons a r _=>simp[ig,Vx]
def arD (n:Nat):AV->bw
 |.str l=>.new (.sl n 0 l.length 1) (.cells l.length [] (ig l) .nil)
 |_=>.fail
@[simp] theorem arC (n:Nat)(l:List Nat):arD n (.str l)=.new (.sl n 0 l.length 1) (.cells l.length [] (ig l) .nil):=Eq.trans rfl rfl
@[simp] theorem axh (x:G)(F:Fr)(H:Hp)(n:Nat):UO x F H n=oE (x.f F) (arD n):=by
 unfold UO oE
 cases x.f F with
 |none=>rfl
 |some v=>cases v<;>first|rfl|(dsimp only;rw[bM,ajB];rfl)
theorem ajR {H:Hp}{n p q b:Nat}{l s:List Nat}(W:nw H n p (.sl b 0 l.length 1) l)(hq:H.get q=some (.cells s.length [] (ig s) .nil))(hl:l.length<1048000)(hs:s.length<=64):
  ak pG 288 [.ptr p 0,.sl q 0 s.length 1] H n (λ u K k=>u=.bo []/\(s=[]->K.get p=H.get p/\K.get b=H.get b/\k=n)/\(s≠[]->K.get p=aR 2 [.bool true,.sl n 0 (l++s).length 1]/\(∃y,K.get n=some y/\OwnB y (ig (l++s)))/\k=n+1)):=by
 obtain⟨hp,pn,hv⟩:=W
 obtain⟨hbn,hbp,hb⟩:b<n/\b≠p/\H.get b=some (.cells l.length [] (ig l) .nil):=by
  rcases hv with⟨h,_⟩|⟨b',h,h1,h2,h3,_⟩
  ·cases h
  injection h with h;subst h;exact⟨h1,h2,h3⟩
 refine ak.of c288 (by simp[A288]) λ F hF=>?_;simp[A288,hF,hp]
 have hsc:aX H 1 (.sl q 0 s.length 1)=some (ig s):=by
  rw[bT hq (.list ah) ah];simp[fN]
 by_cases hs0:s=[]
 ·subst hs0
  have e:jh 1 1 n (.sl b 0 l.length 1) (.sl q 0 0 1) H=.val (.sl b 0 l.length 1):=by
   unfold jh;simp only[length_nil]at hsc;rw[hsc];rfl
  simp[e,hp,hbp]
 have hs1:0<s.length:=length_pos_iff.2 hs0;have hO:aC H n (.sl b 0 l.length 1) (ig l) l.length 1:=⟨ah,.inr ⟨b,_,rfl,hbn,hb,.list ah⟩⟩;refine aC.app hO hsc (k:=s.length) ah ah ae hs1 (by unfold big;omega) ae (uc _) λ H' hO' hf=>?_
 have hp':H'.get p=aR 2 [.bool true,.sl b 0 l.length 1]:=by
  rw[hf p pn,hp];intro h;injection h with h;exact hbp h
 obtain⟨_,⟨h,_⟩|⟨b',k,h,hb,hk,ho⟩⟩:=hO'
 ·cases h
 injection h with h;subst h;have e2:=Vj pn;simp[hp',hs0,hk,e2];rw[D7];exact ho
theorem VB {H:Hp}{n p:Nat}{v:AV}{l:List Nat}(W:nw H n p v l)(s:List Nat)(hl:l.length<1040000)(hs:s.length<=64):
  ak pG 235 [.ptr p 0,.str s] H n (λ u K k=>u=.bo []/\k=(if s=[]then n+3 else n+4)/\K.get p=aR 2 [.bool true,.sl (if s=[]then n+1 else n+3) 0 (l++(ep s.length++s)).length 1]/\∃y,K.get (if s=[]then n+1 else n+3)=some y/\OwnB y (ig (l++(ep s.length++s)))):=by
 have hu:(ep s.length).length=1:=by unfold ep;rw[aw ae];rfl
 obtain⟨H1,h1,h2,_⟩:=N8 W s.length ae ae;rw[hu,show n+2*1=n+2 by omega]at h1 h2;rw[show n+2 - 1=n+1 by omega]at h2;have w:IntKind.u64.wrap (s.length:Int)=(s.length:Int):=pC ae;refine ak.of c235 (by simp[A235]) λ F hF=>?_;simp[A235,hF,dI,w];refine aB.ok h1 ?_;simp[ace,hF];generalize hK:Tr.put H1 _ _=K
 have h2':nw K (n+3) p (.sl (n+1) 0 (l++ep s.length).length 1) (l++ep s.length):=by
  obtain⟨a,b,c⟩:=h2;refine⟨by rw[<-hK,Tr.get_put,ai ae,a],ae,?_⟩
  rcases c with⟨h,_⟩|⟨b',h,h3,h4,h5,h6⟩
  ·cases h
  injection h with h;subst h;exact .inr ⟨_,rfl,ae,h4,by rw[<-hK,Tr.get_put,ai ae,h5],h6⟩
 refine aB.of (ajR (q:=n+2) h2' (s:=s) (by rw[<-hK];simp) (by simp;omega) hs) λ u K' k' ⟨e1,e2,e3⟩=>?_;subst e1;simp
 by_cases h0:s=[]
 ·subst h0;obtain⟨a1,a2,a3⟩:=e2 rfl;obtain⟨b',h,h3,h4,h5,h6⟩:=h2'.hv.resolve_left (by rintro⟨h,_⟩;cases h);injection h with h;subst h;refine⟨by simp[a3],by rw[a1,h2'.hp];simp,_,by simp only[if_true];rw[a2,h5],by simpa using OwnB.list (l:=ig (l++ep 0)) ah⟩
 obtain⟨a1,a2,a3⟩:=e3 h0;simp only[ai h0];refine⟨ae,by simpa[Nat.add_assoc]using a1,by simpa using a2⟩
def txB (s:List Nat)(n:Nat):Nat:=if s=[]then n+1 else n+3
def txN (s:List Nat)(n:Nat):Nat:=if s=[]then n+3 else n+4
theorem agH (s:List Nat)(n:Nat):n<txB s n/\txB s n<txN s n:=by unfold txB txN;split<;>omega
theorem aec {H:Hp}{n p:Nat}{v:AV}{l:List Nat}(W:nw H n p v l)(s:List Nat)(hl:l.length<1040000)(hs:s.length<=64):
  ∃H1,bu pG 235 [.ptr p 0,.str s] H n (.bo []) H1 (txN s n)/\nw H1 (txN s n) p (.sl (txB s n) 0 (l++(ep s.length++s)).length 1) (l++(ep s.length++s))/\∀c,c∉NY p v->c<n∨txN s n<=c->H1.get c=H.get c:=by
 have hu:(ep s.length).length=1:=by unfold ep;rw[aw ae];rfl
 have:=agH s n;exact vC W (by simp[W.pn]) ae (by simp;omega) λ S _ WS=>(VB WS s hl hs).mono λ u K k ⟨a,b,c,d⟩=>⟨a,c,d,b⟩
def one (v:Val):List Nat:=if v.kind=1 then ep (zz v.num)else if v.kind=2 then ep v.s.length++v.s else [v.num.toNat]
def Tu (k:Int):FuncId:=if k=1 then 230 else if k=2 then 234 else 238
theorem nw.alloc {H:Hp}{n p:Nat}{v:AV}{l:List Nat}(W:nw H n p v l)(y:bG):nw (H.put n (some y)) (n+1) p v l:=by
 obtain⟨a,b,c⟩:=W;refine⟨by rw[Tr.get_put,ai ae,a],ae,?_⟩
 rcases c with h|⟨q,h1,h2,h3,h4,h5⟩
 ·exact .inl h
 exact .inr ⟨q,h1,ae,h3,by rw[Tr.get_put,ai ae,h4],h5⟩
theorem nw.fin {H:Hp}{n p b:Nat}{l:List Nat}(W:nw H n p (.sl b 0 l.length 1) l):H.get p=aR 2 [.bool true,.sl b 0 l.length 1]/\∃y,H.get b=some y/\OwnB y (ig l):=by
 rcases W.hv with⟨h,_⟩|⟨b',h,_,_,h3,_⟩
 ·cases h
 injection h with h;subst h;exact⟨W.hp,_,h3,.list ah⟩
theorem al' (x:Int)(h:0<=x)(h2:x<18446744073709551616):(BitVec.ofInt 64 x).toNat=x.toNat:=by
 rw[BitVec.toNat_ofInt,Int.emod_eq_of_lt h ae]
theorem aoi (x:Int)(h1 : -9223372036854775808<=x)(h2:x<9223372036854775808):bS .xor .u64 (IntKind.u64.wrap (IntKind.u64.wrap x*2)) (IntKind.u64.wrap (x.fdiv 9223372036854775808))=.val (.int .u64 ((zz x:Nat):Int)):=by
 have e:IntKind.u64.wrap (IntKind.u64.wrap x*2)=(2*x) % 18446744073709551616:=by simp[IntKind.wrap,IntKind.signed,IntKind.bits];omega
 rw[sV,e]
 congr 2
 by_cases h:0<=x
 ·have e2:x.fdiv 9223372036854775808=0:=by rw[Int.fdiv_eq_ediv_of_nonneg _ ae];omega
  have e3:(2*x) % 18446744073709551616=2*x:=ae;rw[e2,e3,show IntKind.u64.wrap 0=0 from rfl];show IntKind.u64.wrap (((BitVec.ofInt 64 (2*x) ^^^ BitVec.ofInt 64 0).toNat:Nat):Int)=_;rw[show BitVec.ofInt 64 0=0#64 from rfl,BitVec.xor_zero,al' _ ae ae,zz,aw h,pC ae]
 have e2:x.fdiv 9223372036854775808 = -1:=by rw[Int.fdiv_eq_ediv_of_nonneg _ ae];omega
 rw[e2,show IntKind.u64.wrap (-1)=18446744073709551615 from rfl];show IntKind.u64.wrap (((BitVec.ofInt 64 ((2*x) % 18446744073709551616) ^^^ BitVec.ofInt 64 18446744073709551615).toNat:Nat):Int)=_;rw[show BitVec.ofInt 64 18446744073709551615=BitVec.allOnes 64 from rfl,BitVec.xor_allOnes,BitVec.toNat_not,al' _ ae ae,zz,ai h];have:2 ^ 64 - 1 - (2*x % 18446744073709551616).toNat=(-2*x - 1).toNat:=ae;rw[this,pC ae]
theorem akQ {H:Hp}{n p:Nat}{v:AV}{l:List Nat}(W:nw H n p v l)(x:Int)(h1 : -9223372036854775808<=x)(h2:x<9223372036854775808)(hl:l.length<1048000):
  ∃H1,bu pG 231 [.ptr p 0,zI x] H n (.bo []) H1 (n+2*(ep (zz x)).length)/\nw H1 (n+2*(ep (zz x)).length) p (.sl (n+2*(ep (zz x)).length - 1) 0 (l++ep (zz x)).length 1) (l++ep (zz x))/\∀c,c∉NY p v->c<n∨n+2*(ep (zz x)).length<=c->H1.get c=H.get c:=
 vC W (by simp[W.pn]) (by have:=mL (zz x);omega) (by have:=mL (zz x);simp;omega) λ S _ WS=>by
  obtain⟨H1,a,b,_⟩:=N8 WS (zz x) (agG h1 h2) hl;have s1:eR .shl (.int .u64 (IntKind.u64.wrap x)) (.int .u64 1)=.val (.int .u64 (IntKind.u64.wrap (IntKind.u64.wrap x*2))):=by rw[xb _ _ _ _ ae];rfl
  have s2:eR .shr (zI x) (.int .u64 63)=.val (zI (x.fdiv 9223372036854775808)):=by rw[qR _ _ _ _ ae];rfl
  refine ak.of c231 (by simp[A231]) λ F hF=>?_;simp[A231,hF,dI,s1,s2,aoi x h1 h2];refine aB.ok a ?_;simp;have:=b.fin;simpa using this
theorem aju {H:Hp}{n p:Nat}{v:AV}{l:List Nat}(W:nw H n p v l) (u:Val) (hr:u.nD) (hm:u.may=true) (h0:u.kind≠0) (hl:l.length<1040000):
  ∃b' n',n<n'/\∃H1,bu pG (Tu u.kind) [.ptr p 0,u.av] H n (.bo []) H1 n'/\nw H1 n' p (.sl b' 0 (l++one u).length 1) (l++one u)/\∀c,c∉NY p v->c<n∨n'<=c->H1.get c=H.get c:=by
 have hk:=Val.jK hm;unfold one Tu
 by_cases k1:u.kind=1
 ·refine⟨n+2*(ep (zz u.num)).length,n+1+2*(ep (zz u.num)).length,ae,?_⟩;simp only[aw k1];refine vC W (by simp[W.pn,Val.av]) ae (by have:=mL (zz u.num);simp;omega) λ S _ WS=>?_;obtain⟨H1,a,b,_⟩:=akQ (WS.alloc (.cells 3 [] u.cells .nil)) u.num hr.lo hr.hi ae;refine ak.of c230 (by simp[A230]) λ F hF=>?_;simp[Val.cells]at a;simp[A230,hF,Val.av];refine aB.ok a ?_;simp;have:=b.fin;have e:n+1+2*(ep (zz u.num)).length - 1=n+2*(ep (zz u.num)).length:=ae;rw[e]at this;simpa using this
 by_cases k2:u.kind=2
 ·have hs:=Val.lV hm k2;simp only[ai k1,aw k2];have ht:=agH u.s (n+1);refine⟨txB u.s (n+1),txN u.s (n+1),ae,vC W (by simp[W.pn,Val.av]) ae (by have:=mL u.s.length;simp;omega) λ S _ WS=>?_⟩;obtain⟨H1,a,b,_⟩:=aec (WS.alloc (.cells 3 [] u.cells .nil)) u.s ae hs;refine ak.of c234 (by simp[A234]) λ F hF=>?_;simp[Val.cells]at a;simp[A234,hF,Val.av];refine aB.ok a ?_;simp;simpa using b.fin
 obtain k3:u.kind=3:=ae
 have hn:u.num=0∨u.num=1:=by
  have:=hm;unfold Val.may at this;simp[k3]at this;exact this.2
 simp only[ai k1,ai k2];refine⟨n+2,n+3,ae,vC W (by simp[W.pn,Val.av]) ae ah λ S _ WS=>?_⟩;obtain⟨H1,a,b,_⟩:=CO (WS.alloc (.cells 3 [] u.cells .nil)) u.num.toNat ae ae;have w:IntKind.u8.wrap u.num=((u.num.toNat:Nat):Int):=by rcases hn with h|h<;>rw[h]<;>rfl
 refine ak.of c238 (by simp[A238]) λ F hF=>?_;simp only[Val.cells]at a;simp[A238,hF,Val.av,dI,w];refine aB.ok (by simpa using a) ?_;simp;simpa using b.fin
def rX:List Val->Nat
 |[]=>0
 |v::r=>(if v.kind=0 then 1 else 0)+2*rX r
theorem Uf (l:List Val)(v:Val):rX (l++[v])=rX l+2 ^ l.length*(if v.kind=0 then 1 else 0):=by
 induction l with
 |nil=>simp[rX]
 |cons a r ih =>
  simp only[cons_append,rX,ih,length_cons,Nat.pow_succ,Nat.mul_add];rw[Nat.mul_comm (2 ^ r.length) 2,Nat.mul_assoc];omega
theorem OP (l:List Val):rX l<2 ^ l.length:=by
 induction l with
 |nil=>simp[rX]
 |cons a r ih=>simp only[rX,length_cons,Nat.pow_succ];split<;>omega
def pZ (row:List Val)(m:Nat):List Nat:=(range m).map λ j=>rX ((row.drop (8*j)).take 8)
theorem KD (row:List Val)(m:Nat):pZ row (m+1)=pZ row m++[rX ((row.drop (8*m)).take 8)]:=by simp[pZ,range_succ]
@[simp] theorem UX (row:List Val)(m:Nat):(pZ row m).length=m:=by simp[pZ]
def mg (row:List Val):List Nat:=row.flatMap λ v=>if v.kind=0 then []else one v
def encR (row:List Val):List Nat:=pZ row ((row.length+7) / 8)++mg row
def wF (c:List oS)(row:List Val):List Nat×Int:=if sK c row=0 then (if (encR row).length<=160 then (encR row,0)else ([],51))else ([],sK c row)
theorem or_bit:∀j:Fin 8,∀x:Fin 256,x.val<2 ^ j.val->(BitVec.ofInt 8 (x.val:Int) ||| BitVec.ofInt 8 ((2 ^ j.val:Nat):Int)).toNat=x.val+2 ^ j.val:=by decide
theorem avA {j x:Nat}(hj:j<8)(hx:x<2 ^ j):bS .or .u8 (x:Int) ((2 ^ j:Nat):Int)=.val (.int .u8 ((x+2 ^ j:Nat):Int)):=by
 have h1:2 ^ j<=2 ^ 7:=Nat.pow_le_pow_right ae ae;have h2:=or_bit ⟨j,hj⟩ ⟨x,ae⟩ hx;rw[Cc];rw[show (BitVec.ofInt IntKind.u8.bits (x:Int) ||| BitVec.ofInt IntKind.u8.bits ((2 ^ j:Nat):Int)).toNat=x+2 ^ j from h2,AB ae]
theorem aoC {j:Nat}(hj:j<8):eR .shl (.int .u8 1) (zI (j:Int))=.val (.int .u8 ((2 ^ j:Nat):Int)):=by
 have h1:2 ^ j<=2 ^ 7:=Nat.pow_le_pow_right ae ae;rw[xb _ _ _ _ ae];have:min (j:Int).toNat IntKind.u8.bits=j:=by simp[IntKind.bits];omega
 rw[this];have:=AB (show 2 ^ j<256 by omega);simpa using this
theorem akt (H:Hp)(n:Nat):ak pG 166 [] H n (λ u K k=>u=.ptr n 0/\K=H.put n (aR 2 [.bool true,.aV (.slice none 0 0)])/\k=n+1):=by
 refine ak.of c166 (by simp[A166]) λ F hF=>?_;simp[A166]
def tf:List AV:=[zI 1,.fn (.func 230) [] [],.fn (.func 232) [] [],zI 2,.fn (.func 234) [] [],.fn (.func 236) [] [],zI 3,.fn (.func 238) [] [],.fn (.func 239) [] []]
theorem ad':aj pG 168 [] (.agg tf 9):=by
 refine gW c168 ah (by simp[tf]) (by simp[A168]) λ F hF=>?_;simp[A168];exact fp
theorem alB (row:List Val) (hl:row.length<=16) (b:Nat) (hm:b<row.length) (F:Fr) (K:Hp) (n:Nat) (Q:QA) (f1:F.get 1=some (ay row)) (f8:F.get 8=some (zI (b:Int))) (f9:F.get 9=some (.int .u8 0)) (f10:F.get 10=some (zI (b:Int)))
  (k:∀F':Fr,F'.get 1=F.get 1->F'.get 7=F.get 7->F'.get 8=F.get 8->F'.get 9=some (.int .u8 (rX ((row.drop b).take 8):Int))->Q (.exit 2) F' K n []):aE IL pG F K n [] Q:=by
 refine aE.of (λ t F' K' n' ms=>∃i a,t=8 - i/\i<=8/\a=b+i/\a<=row.length/\F'.get 1=F.get 1/\F'.get 7=F.get 7/\F'.get 8=F.get 8/\F'.get 9=some (.int .u8 (rX ((row.drop b).take i):Int))/\F'.get 10=some (zI (a:Int))/\K'=K/\n'=n/\ms=[]) 8 ⟨0,b,by simp[f9,f10,rX];omega⟩ ?_;rintro t F' K' n' ms ⟨i,a,rfl,hi,ha,hle,g1,g7,g8,g9,g10,rfl,rfl,rfl⟩
 have fin:(i=8∨a=row.length)->∀F2:Fr,F2.get 1=F.get 1->F2.get 7=F.get 7->F2.get 8=F.get 8->F2.get 9=F'.get 9->Q (.exit 2) F2 K' n' []:=λ h F2 x y z f=>by
  refine k F2 x y z (f.trans (g9.trans ?_))
  congr 3
  rcases h with rfl|h
  ·rfl
  rw[fN (by simp;omega),fN (by simp;omega)]
 have h1':=g1.trans f1;have h8':=g8.trans f8;rw[ay]at h1';have w1:IntKind.i64.wrap ((b:Int)+8)=(b:Int)+8:=dW _ ae ae
 by_cases h1:a<row.length
 ·by_cases h2:i<8
  ·have hx:=fK (k:=.i64) h1;have w2:IntKind.i64.wrap ((a:Int) - (b:Int))=(i:Int):=by rw[dW _ ae ae];omega
   have w3:=aD a ae;have hlen:((row.drop b).take i).length=i:=by simp;omega
   have hs:(row.drop b).take (i+1)=(row.drop b).take i++[row[a]]:=by
    rw[take_add_one,lj,<-ha,cX h1];rfl
   have hb:=Uf ((row.drop b).take i) row[a];have hlt:=OP ((row.drop b).take i);rw[hlen]at hb hlt;rw[<-hs]at hb;simp[IL,h1',h8',g10,h1,w1,show (a:Int)<(b:Int)+8 by omega,hx,O3]
   by_cases h0:row[a].kind=0
   ·have s1:=aoC h2;have s2:=avA h2 hlt;rw[h0,aw rfl,Nat.mul_one]at hb;rw[<-hb]at s2;simp only[Int.natCast_pow,Int.cast_ofNat_Int]at s1 s2;simp[h0,ZR,g9,g10,h8',w2,s1,s2,KN,w3];exact⟨_,ae,i+1,rfl,ae,ae,g1,g7,f8.symm,rfl,ae⟩
   rw[ai h0]at hb;simp[h0,KN,g10,w3];exact⟨_,ae,i+1,rfl,ae,ae,g1,g7,g8,by simp[hb,g9],ae⟩
  obtain rfl:i=8:=ae;simp[IL,h1',h8',g10,h1,w1,show ¬(a:Int)<(b:Int)+8 by omega];exact fin (.inl rfl) _ (by simp[g1]) (by simp[g7]) (by simp[g8]) ah
 simp[IL,h1',g10,h1];exact fin (.inr ae) _ (by simp[g1]) (by simp[g7]) (by simp[g8]) ah
end Go.Abs
