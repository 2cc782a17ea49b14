/- A part. -/
import Derived.Test.YtlhafglnokpioaaGreatBt11
noncomputable section
namespace Go.Abs
open List
open Go.Proofs
open Classical
set_option maxRecDepth 100000
def nH (w:qf)(iM:List bR):List (List (List Val)):=iM.map λ t=>w.rows.getD (atI w.aY t.id).toNat []
structure ajh (w:qf)(b:oU)(J:Nat):Prop where
 fl:b.iM.length=J
 f100:b.iM.length<=100
 ol:b.on.length=b.iM.length
 os:∀l∈b.on,l.length<=aU/\∀e∈l,e.sz<=aU
 wl:b.cond.length<=aU
 ws:∀e∈b.cond,e.sz<=aU
 il:b.items.length<=aU
 is:∀e∈b.items,e.sz<=aU
 nl:b.names.length<=aU
 kl:b.kinds.length<=aU
 ord:b.order=[]
 kE:b.kE=false
 awa:b.limited=false
 ix:∀t∈b.iM,∃k,k<w.rows.length/\atI w.aY t.id=(k:Int)
 ts:∀L∈w.rows,L.length<=100000/\∀r∈L,r≠[]/\r.length<=1000
def zu (w:qf)(b:oU)(J:Nat):sW:=gJ b.on (nH w b.iM) b.cond b.items J
theorem ajD {w:qf}(hw:w.gA){b:oU}{J:Nat}(q:ajh w b J){V:Nat->AV}{RC:List AV}(hV:ZL w b V RC):amI 67 (dC (aM.ds w.aY.tables) (bw.ds w.aY.indexes) nS b nS nS nS 0) V RC (nN (zu w b J))
  (λ r W=>dC (aM.ds w.aY.tables) (bw.ds w.aY.indexes) (V r) b (dz.ds b.names) (dA.ds b.kinds) W 0) (aQ (oV (zu w b J).rows)) (zu w b J).rows.length:=by
 intro H n p r hp hr hpr ht;have hset:(dC (aM.ds w.aY.tables) (bw.ds w.aY.indexes) nS b nS nS nS 0).set 2 (V r)=dC (aM.ds w.aY.tables) (bw.ds w.aY.indexes) (V r) b nS nS nS 0:=rfl;rw[hset]at hp;have hD:((dC (aM.ds w.aY.tables) (bw.ds w.aY.indexes) (V r) b nS nS nS 0).set 28 (dz.ds b.names)).set 29 (dA.ds b.kinds)=dC (aM.ds w.aY.tables) (bw.ds w.aY.indexes) (V r) b (dz.ds b.names) (dA.ds b.kinds) nS 0:=rfl
 have hV0:0<b.iM.length->RC=w.rows.map dR/\V r=.sl r 0 RC.length 1:=λ h=>by
  obtain⟨k,hk,_⟩:=q.ix _ (dy h)
  rcases hV with⟨h1,h2,h3⟩|⟨h1,_,_⟩
  ·exact⟨h2,by rw[h3,h2,length_map]⟩
  rw[h1]at hk;simp at hk
 have hVr:iF n (V r):=by
  have hn:=ht.lt hr
  rcases hV with⟨_,_,h3⟩|⟨_,_,h3⟩
  ·rw[h3];simp[iF];exact hn
  rw[h3];exact(show Pure nS by simp).jQ
 obtain⟨X,hX⟩:∃X:oJ,X=⟨w.aY,b.iM,b.on,nH w b.iM,RC,p,0,r,dC (aM.ds w.aY.tables) (bw.ds w.aY.indexes) (V r) b (dz.ds b.names) (dA.ds b.kinds) nS 0⟩:=⟨_,rfl⟩
 have ok0:∀y,(X.at y).ok:=λ y=>by
  subst hX;refine⟨hw.s.t,q.f100,q.ol,by simp[oJ.at,nH],rfl,rfl,λ j h=>?_,q.os,λ t ht=>?_⟩
  ·obtain⟨k,hk,e⟩:=q.ix _ (dy h);obtain⟨rfl,_⟩:=hV0 (by have:j<b.iM.length:=h;omega);refine⟨k,by simpa[oJ.at]using hk,e,?_⟩;simp only[oJ.at,nH,getElem_map]at h e ⊢;rw[e];simp[getD,hk]
  simp only[oJ.at,nH,mem_map]at ht;obtain⟨t',ht',rfl⟩:=ht;obtain⟨k,hk,e⟩:=q.ix _ ht';rw[e];simp only[Int.toNat_natCast,getD,cY hk,Option.getD_some];exact q.ts _ (dy hk)
 have qd0:∀y,QD (X.at y) b.cond b.items:=λ y=>by
  subst hX;exact⟨rfl,λ h=>by show some (V r)=_;rw[(hV0 h).2];rfl,rfl,rfl,rfl,q.wl,q.ws,q.il,q.is⟩
 have hrun:gJ X.on X.tabs b.cond b.items J=zu w b J:=by subst hX;rfl
 have hpX:H.get X.p=aN 32 (dC (aM.ds w.aY.tables) (bw.ds w.aY.indexes) (V r) b nS nS nS 0):=by rw[hX];exact hp
 have hRC:H.get X.r=some (.cells X.RC.length [] X.RC .nil):=by rw[hX];exact hr
 have hXr:X.p≠X.r:=by rw[hX];exact hpr
 have hrl:dO n (dC (aM.ds w.aY.tables) (bw.ds w.aY.indexes) (V r) b nS nS nS 0):=by
  refine dO.of λ x hx=>?_;unfold dC at hx;simp only[mem_cons,mem_append,not_mem_nil,or_false]at hx;have hb:∀x∈b.cells,iF n x:=λ x hx=>(b.pure.mem x hx).jQ
  rcases hx with rfl|rfl|rfl|hx|rfl|rfl|rfl|rfl
  ·exact(show Pure _ by simp).jQ
  ·exact(show Pure _ by simp).jQ
  ·exact hVr
  ·exact hb x hx
  ·exact(show Pure nS by simp).jQ
  ·exact(show Pure nS by simp).jQ
  ·exact(show Pure nS by simp).jQ
  exact(show Pure _ by simp).jQ
 have HN:bg (KB.ds b.order)=.val (zI 0):=by rw[q.ord];rfl
 have:=WZ (X0:=X) (w:=b.cond) (it:=b.items) (J:=J) (H:=H) (n:=n) (names:=b.names) (kinds:=b.kinds) (D:=dC (aM.ds w.aY.tables) (bw.ds w.aY.indexes) (V r) b nS nS nS 0) ok0 qd0 (by rw[hX];exact q.fl) (by rw[hX,hD]) q.nl q.kl rfl rfl rfl (v24:=KB.ds b.order) rfl HN (by show some (AV.bool b.kE)=_;rw[q.kE]) (by show some (AV.bool b.limited)=_;rw[q.awa]) rfl hpX hRC hXr hrl ht ?_
 ·rw[hrun]at this;rw[hX]at this;refine this.mono λ u K k ⟨hu,hy,hf,hk⟩=>⟨hu,λ he=>?_,hf,hk⟩;obtain⟨y,v,g1,g2,g3,g4⟩:=hy he;exact⟨v,y,g1,by simpa[dC,oU.cells]using g2,g3,g4⟩
 intro _ _ rr hrr;obtain⟨h1,h2⟩:=xZ _ _ _ _ _ rr hrr;exact⟨h1,by rw[h2];exact q.il⟩
end Go.Abs
namespace Go.Abs
open List
open Go.Proofs
open Classical
set_option maxRecDepth 100000
section
variable {S:Type}
def oO (E:S->Int->S)(Y:S->List Val->S)(on:List Ex)(row:List Val):List (List Val)->S->S
 |[],s=>s
 |r::rs,s=>oO E Y on row rs (if (bL (row++r) on).1=true then Y (E s (bL (row++r) on).2) (row++r)else E s (bL (row++r) on).2)
def runN (E:S->Int->S)(on:List (List Ex))(tabs:List (List (List Val))):Nat->(S->List Val->S)->S->S
 |0,Y,s=>Y s []
 |j+1,Y,s=>runN E on tabs j (λ s row=>oO E Y (on.getD j []) row (tabs.getD j []) s) s
theorem Dj {C:Cons S}{Y:S->List Val->S}(h:∀s row,C.go (C.Y s row)=true->C.Y s row=Y s row) (on:List Ex) (row:List Val):∀(L:List (List Val)) (s:S),C.go (cQ C on row L s)=true->cQ C on row L s=oO C.E Y on row L s
 |[],s,_=>rfl
 |r :: rs,s,hg=>by
  unfold cQ at hg ⊢;unfold oO
  split at hg
  ·rename_i h1;rw[ay h1,ay h1]
   split at hg
   ·rename_i h2;rw[ay h2,<-h _ _ h2];exact Dj h on row rs _ hg
   rename_i h2;exact aw hg h2
  rename_i h1;rw[ak h1,ak h1];exact Dj h on row rs _ hg
theorem V9 (on:List (List Ex))(tabs:List (List (List Val))):∀(j:Nat)(C:Cons S)(Y:S->List Val->S),(∀s row,C.go (C.Y s row)=true->C.Y s row=Y s row)->∀s,C.go (oW on tabs j C s)=true->oW on tabs j C s=runN C.E on tabs j Y s
 |0,C,Y,h,s,hg=>h _ _ hg
 |j+1,C,Y,h,s,hg=>by
  unfold oW at hg ⊢;unfold runN;exact V9 on tabs j {C with Y:=λ s row=>cQ C (on.getD j []) row (tabs.getD j []) s} _ (λ s row hr=>Dj h _ _ _ _ hr) s hg
end
def Dh (on:List (List Ex))(tabs:List (List (List Val))):Nat->(List Val->List (List Val))->List (List Val)
 |0,g=>g []
 |j+1,g=>Dh on tabs j λ row=>(tabs.getD j []).flatMap λ r=>if (bL (row++r) (on.getD j [])).1=true then g (row++r)else []
def u0 (on:List (List Ex))(tabs:List (List (List Val))):Nat->(List Val->Prop)->Prop
 |0,P=>P []
 |j+1,P=>u0 on tabs j λ row=>∀r∈tabs.getD j [],(bL (row++r) (on.getD j [])).2=0/\((bL (row++r) (on.getD j [])).1=true->P (row++r))
def qE (s:sW)(e:Int):sW:={s with acc:=je s.acc e}
theorem xQ {Y:sW->List Val->sW}{g:List Val->List (List Val)}(h:∀s row,(Y s row).rows=s.rows++g row)(on:List Ex)(row:List Val):∀(L:List (List Val))(s:sW),(oO qE Y on row L s).rows=s.rows++L.flatMap λ r=>if (bL (row++r) on).1=true then g (row++r)else []
 |[],s=>by simp[oO]
 |r::rs,s=>by
  unfold oO;rw[xQ h on row rs,flatMap_cons,<-append_assoc]
  congr 1
  split
  ·rw[h];rfl
  simp[qE]
theorem AW (on:List (List Ex))(tabs:List (List (List Val))):∀(j:Nat)(Y:sW->List Val->sW)(g:List Val->List (List Val)),(∀s row,(Y s row).rows=s.rows++g row)->∀s,(runN qE on tabs j Y s).rows=s.rows++Dh on tabs j g
 |0,Y,g,h,s=>h _ _
 |j+1,Y,g,h,s=>by
  unfold runN Dh;exact AW on tabs j (λ s row=>oO qE Y (on.getD j []) row (tabs.getD j []) s) (λ row=>(tabs.getD j []).flatMap λ r=>if (bL (row++r) (on.getD j [])).1=true then g (row++r)else []) (λ s row=>xQ h (on.getD j []) row (tabs.getD j []) s) s
theorem yx {a b:Int}:je a b=0↔a=0/\b=0:=⟨JS,λ⟨h1,h2⟩=>by subst h1 h2;rfl⟩
theorem AY {Y:sW->List Val->sW}{P:List Val->Prop}(h:∀s row,(Y s row).acc=0↔s.acc=0/\P row)(on:List Ex)(row:List Val):∀(L:List (List Val))(s:sW),(oO qE Y on row L s).acc=0↔s.acc=0/\∀r∈L,(bL (row++r) on).2=0/\((bL (row++r) on).1=true->P (row++r))
 |[],s=>by simp[oO]
 |r :: rs,s=>by
  unfold oO;rw[AY h on row rs,forall_mem_cons]
  by_cases h1:(bL (row++r) on).1=true
  ·rw[ay h1,h];simp only[qE,yx,h1,true_implies];constructor
   ·rintro⟨⟨⟨a,b⟩,c⟩,d⟩;exact⟨a,⟨b,c⟩,d⟩
   rintro⟨a,⟨b,c⟩,d⟩;exact⟨⟨⟨a,b⟩,c⟩,d⟩
  rw[ak h1];simp only[qE,yx,h1];constructor
  ·rintro⟨⟨a,b⟩,d⟩;exact⟨a,⟨b,λ h=>aw h ai⟩,d⟩
  rintro⟨a,⟨b,c⟩,d⟩;exact⟨⟨a,b⟩,d⟩
theorem GV (on:List (List Ex))(tabs:List (List (List Val))):∀(j:Nat)(Y:sW->List Val->sW)(P:List Val->Prop),(∀s row,(Y s row).acc=0↔s.acc=0/\P row)->∀s,(runN qE on tabs j Y s).acc=0↔s.acc=0/\u0 on tabs j P
 |0,Y,P,h,s=>h _ _
 |j+1,Y,P,h,s=>by
  unfold runN u0;exact GV on tabs j (λ s row=>oO qE Y (on.getD j []) row (tabs.getD j []) s) (λ row=>∀r∈tabs.getD j [],(bL (row++r) (on.getD j [])).2=0/\((bL (row++r) (on.getD j [])).1=true->P (row++r))) (λ s row=>AY h (on.getD j []) row (tabs.getD j []) s) s
theorem zB (on:List (List Ex))(tabs:List (List (List Val))):∀(j:Nat){P Q:List Val->Prop},(∀row,P row->Q row)->u0 on tabs j P->u0 on tabs j Q
 |0,P,Q,h,hP=>h _ hP
 |j+1,P,Q,h,hP=>by
  unfold u0 at hP ⊢;exact zB on tabs j (λ row hr r hm=>⟨(hr r hm).1,λ hh=>h _ ((hr r hm).2 hh)⟩) hP
theorem zC (on:List (List Ex))(tabs:List (List (List Val))):∀(j:Nat){P Q:List Val->Prop},u0 on tabs j P->u0 on tabs j Q->u0 on tabs j λ row=>P row/\Q row
 |0,P,Q,hP,hQ=>⟨hP,hQ⟩
 |j+1,P,Q,hP,hQ=>by
  unfold u0 at hP hQ ⊢;exact zB on tabs j (λ row ⟨h1,h2⟩ r hm=>⟨(h1 r hm).1,λ hh=>⟨(h1 r hm).2 hh,(h2 r hm).2 hh⟩⟩) (zC on tabs j hP hQ)
theorem Am {α β:Type}(L:List α)(f a b c:α->List β)(h:∀r∈L,(f r).Perm (a r++b r++c r)):(L.flatMap f).Perm (L.flatMap a++L.flatMap b++L.flatMap c):=by
 induction L with
 |nil=>simp
 |cons r rs ih =>
  simp only[flatMap_cons];refine((h r ai).append (ih λ x hx=>h x (by simp[hx]))).trans ?_;generalize a r=A;generalize b r=B;generalize c r=C;generalize rs.flatMap a=A';generalize rs.flatMap b=B';generalize rs.flatMap c=C';refine perm_iff_count.2 λ x=>?_;simp only[count_append];omega
theorem AX (on:List (List Ex))(tabs:List (List (List Val))):∀(j:Nat){Q:List Val->Prop}{g a b c:List Val->List (List Val)},u0 on tabs j Q->(∀row,Q row->(g row).Perm (a row++b row++c row))->(Dh on tabs j g).Perm (Dh on tabs j a++Dh on tabs j b++Dh on tabs j c)
 |0,Q,g,a,b,c,hQ,h=>h _ hQ
 |j + 1,Q,g,a,b,c,hQ,h=>by
  unfold Dh u0 at *;refine AX on tabs j hQ λ row hr=>?_;refine Am _ _ _ _ _ λ r hm=>?_
  by_cases h1:(bL (row++r) (on.getD j [])).1=true
  ·simp only[h1,if_true];exact h _ ((hr r hm).2 h1)
  rw[ak h1,ak h1,ak h1,ak h1];exact .refl _
def gQ (w it:List Ex)(row:List Val):List (List Val):=if (bL row w).1=true then [fo row it]else []
def pQ (w it:List Ex)(row:List Val):Prop:=(bL row w).2=0/\((bL row w).1=true->∀e∈it,(mW row e).2=0)
def yN (w it:List Ex)(s:sW)(row:List Val):sW:=if (bL row w).1=true then {s with rows:=s.rows++[fo row it],acc:=oo row it (je s.acc (bL row w).2)} else {s with acc:=je s.acc (bL row w).2}
theorem af_ (row:List Val)(l:List Ex)(h:∀e∈l,(mW row e).2=0):oo row l 0=0:=by
 unfold oo
 induction l with
 |nil=>rfl
 |cons e r ih =>
  rw[foldl_cons,h e ai];exact ih λ x hx=>h x (by simp[hx])
theorem ael (w it:List Ex)(s:sW)(row:List Val):(yN w it s row).rows=s.rows++gQ w it row:=by
 unfold yN gQ
 split<;>simp
theorem ajt (w it:List Ex)(s:sW)(row:List Val):(yN w it s row).acc=0↔s.acc=0/\pQ w it row:=by
 unfold yN pQ
 by_cases h:(bL row w).1=true
 ·rw[ay h];simp only[h,true_implies];constructor
  ·intro h2;obtain⟨a,b⟩:=YW row it _ h2;obtain⟨c,d⟩:=JS a;exact⟨c,d,b⟩
  rintro⟨a,b,c⟩;rw[a,b];exact af_ row it c
 rw[ak h];simp[yx,h]
theorem Dn {on:List (List Ex)}{tabs:List (List (List Val))}{w it:List Ex}{j:Nat}(hg:(gJ on tabs w it j).go=true):(gJ on tabs w it j).rows=Dh on tabs j (gQ w it)/\((gJ on tabs w it j).acc=0↔u0 on tabs j (pQ w it)):=by
 have key:gJ on tabs w it j=runN qE on tabs j (yN w it) ⟨[],0,true⟩:=by
  unfold gJ at hg ⊢;refine V9 on tabs j _ _ (λ s row hr=>?_) _ hg;show tz w it s row=yN w it s row;have hr':(tz w it s row).go=true:=hr;unfold tz at hr' ⊢;unfold yN
  split
  ·rename_i h1;rw[ay h1]at hr'
   split
   ·rename_i h2;rw[ay h2]at hr';simp at hr'
   rfl
  rfl
 rw[key];exact⟨by rw[AW on tabs j _ _ (ael w it)];rfl,by rw[GV on tabs j _ _ (ajt w it)];simp⟩
theorem JD {s:sW}(h:nN s=0):s.go=true/\s.acc=0:=by
 unfold nN at h
 split at h
 ·exact⟨by assumption,h⟩
 omega
theorem JC {on:List (List Ex)}{tabs:List (List (List Val))}{w a b c it:List Ex}{j:Nat}(ahd:∀row,pQ a it row->pQ b it row->pQ c it row->pQ w it row/\(gQ w it row).Perm (gQ a it row++gQ b it row++gQ c it row))
  (ha:nN (gJ on tabs a it j)=0)(hb:nN (gJ on tabs b it j)=0)(hc:nN (gJ on tabs c it j)=0):
  nN (gJ on tabs w it j)=4∨(nN (gJ on tabs w it j)=0/\(gJ on tabs w it j).rows.Perm ((gJ on tabs a it j).rows++(gJ on tabs b it j).rows++(gJ on tabs c it j).rows)):=by
 obtain⟨ga,aa⟩:=JD ha;obtain⟨gb,ab⟩:=JD hb;obtain⟨gc,ac⟩:=JD hc;obtain⟨ra,pa⟩:=Dn ga;obtain⟨rb,pb⟩:=Dn gb;obtain⟨rc,pc⟩:=Dn gc;have hQ:=zC on tabs j (pa.1 aa) (zC on tabs j (pb.1 ab) (pc.1 ac))
 cases hg:(gJ on tabs w it j).go with
 |false=>left;unfold nN;rw[hg];rfl
 |true =>
  obtain⟨rw',pw⟩:=Dn hg
  right
  refine⟨?_,?_⟩
  ·unfold nN;rw[hg,ay rfl];exact pw.2 (zB on tabs j (λ row ⟨h1,h2,h3⟩=>(ahd row h1 h2 h3).1) hQ)
  rw[rw',ra,rb,rc];exact AX on tabs j hQ λ row ⟨h1,h2,h3⟩=>(ahd row h1 h2 h3).2
end Go.Abs
namespace Go.Abs
open List
open Go.Proofs
open Classical
set_option maxRecDepth 100000
theorem BG (row:List Val) (m:List Ex):∀l:List Ex,holdL row (l++m)=if (holdL row l).1=true then holdL row m else holdL row l
 |[]=>by simp[holdL]
 |e :: r=>by
  rw[cons_append,holdL,holdL]
  by_cases h1:(e.ev row).2≠0
  ·simp[h1]
  rw[ak h1,ak h1]
  by_cases h2:(e.ev row).1.kind≠0/\(e.ev row).1.kind≠3
  ·simp[h2]
  rw[ak h2,ak h2]
  by_cases h3:(e.ev row).1≠dx true
  ·simp[h3]
  rw[ak h3,ak h3];exact BG row m r
theorem ajG {v:Val}(h:v.may=true)(hk:v.kind=3):v=dx false∨v=dx true:=by
 obtain⟨k,n,s⟩:=v;simp only at hk;subst hk;simp[Val.may]at h;obtain⟨rfl,rfl|rfl⟩:=h
 ·left;rfl
 right;rfl
theorem aq2 {l:List Val}(h:iN 3 l=0):∀v∈l,v.may=true/\(v.kind=0∨v.kind=3):=by
 unfold iN at h
 split at h
 ·rename_i h1
  split at h
  ·rename_i h2;intro v hv;refine⟨all_eq_true.1 h1 v hv,?_⟩;have:=all_eq_true.1 h2 v hv;simpa[JX]using this
  omega
 omega
theorem Jk:dx false≠dx true:=by simp[dx]
theorem Zq {x y:Val}(h:(lV false x y).2=0):(lV false x y).1=dx true↔x=dx true/\y=dx true:=by
 unfold lV at h ⊢
 by_cases hf:iN 3 [x,y]≠0
 ·rw[ay hf]at h;exact aw h hf
 rw[ak hf]at h ⊢;have hm:=aq2 (not_not.1 hf);have hx:=hm x ai;have hy:=hm y ai
 by_cases h1:x=dx false∨y=dx false
 ·rw[ay h1];constructor
  ·intro h;exact aw h Jk
  rintro⟨rfl,rfl⟩
  rcases h1 with h|h<;>exact aw h.symm Jk
 rw[ak h1]
 by_cases h2:x.kind=0∨y.kind=0
 ·rw[ay h2];constructor
  ·intro h;simp[fq,dx]at h
  rintro⟨rfl,rfl⟩;simp[dx]at h2
 rw[ak h2];have h1':=not_or.1 h1;have h2':=not_or.1 h2;have a:=(ajG hx.1 (hx.2.resolve_left h2'.1)).resolve_left h1'.1;have b:=(ajG hy.1 (hy.2.resolve_left h2'.2)).resolve_left h1'.2;simp[a,b]
theorem alF {row:List Val}{v:Val}{t m:List Nat}{cD:Int}{a b:Ex}(h:((Ex.mk 20 v t m cD [a,b]).ev row).2=0):
  (a.ev row).2=0/\(b.ev row).2=0/\(lV false (a.ev row).1 (b.ev row).1).2=0/\((Ex.mk 20 v t m cD [a,b]).ev row).1=(lV false (a.ev row).1 (b.ev row).1).1:=by
 have e:(Ex.mk 20 v t m cD [a,b]).ev row=(match Ex.BN row [a,b]with|.inl e=>(fq,e)|.inr l=>XE 20 (l.getD 0 fq) (l.getD 1 fq)):=by rw[Ex.ev,ak ah,ak ah];rfl
 rw[e]at h ⊢
 by_cases h1:(a.ev row).2=0
 ·by_cases h2:(b.ev row).2=0
  ·have el:Ex.BN row [a,b]=.inr [(a.ev row).1,(b.ev row).1]:=by simp[Ex.BN,h1,h2]
   rw[el]at h ⊢;have eo:XE 20 (([(a.ev row).1,(b.ev row).1]:List Val).getD 0 fq) (([(a.ev row).1,(b.ev row).1]:List Val).getD 1 fq)=lV false (a.ev row).1 (b.ev row).1:=by simp[XE,biS]
   simp only[eo]at h ⊢;exact⟨h1,h2,h,trivial⟩
  have el:Ex.BN row [a,b]=.inl (b.ev row).2:=by simp[Ex.BN,h1,h2]
  rw[el]at h;exact aw h h2
 have el:Ex.BN row [a,b]=.inl (a.ev row).2:=by simp[Ex.BN,h1]
 rw[el]at h;exact aw h h1
theorem ahr {row:List Val}{op:Int}{v:Val}{t m:List Nat}{cD:Int}{a:Ex}(ho:op=5∨op=6)(h:((Ex.mk op v t m cD [a]).ev row).2=0):
  (a.ev row).2=0/\(Vu op (a.ev row).1).2=0/\((Ex.mk op v t m cD [a]).ev row).1=(Vu op (a.ev row).1).1:=by
 have e:(Ex.mk op v t m cD [a]).ev row=(match Ex.BN row [a]with|.inl e=>(fq,e)|.inr l=>XE op (l.getD 0 fq) (l.getD 1 fq)):=by rw[Ex.ev,ak ah,ak ah];rfl
 rw[e]at h ⊢
 by_cases h1:(a.ev row).2=0
 ·have el:Ex.BN row [a]=.inr [(a.ev row).1]:=by simp[Ex.BN,h1]
  rw[el]at h ⊢;have eo:XE op (([(a.ev row).1]:List Val).getD 0 fq) (([(a.ev row).1]:List Val).getD 1 fq)=Vu op (a.ev row).1:=by unfold XE;rw[ay ah];simp
  simp only[eo]at h ⊢;exact⟨h1,h,trivial⟩
 have el:Ex.BN row [a]=.inl (a.ev row).2:=by simp[Ex.BN,h1]
 rw[el]at h;exact aw h h1
theorem yI {row:List Val}{e:Ex}(h:(e.ev row).2=0):(holdL row [e]).1=true↔(e.ev row).1=dx true:=by
 unfold holdL;rw[ak (by simpa using h)]
 by_cases h2:(e.ev row).1.kind≠0/\(e.ev row).1.kind≠3
 ·rw[ay h2];constructor
  ·intro h;simp at h
  intro h;rw[h]at h2;simp[dx]at h2
 rw[ak h2]
 by_cases h3:(e.ev row).1=dx true
 ·simp[h3,holdL]
 simp[h3]
theorem rK (row:List Val):∀(n:Nat) (e:Ex),e.sz<=n->(e.ev row).2=0->((holdL row e.split).1=true↔(e.ev row).1=dx true)
 |0,e,hn,_=>by have:=e.kQ;omega
 |n + 1,.mk op v t m cD args,hn,h=>by
  by_cases hs:op=20/\args.length=2
  ·obtain⟨rfl,hl⟩:=hs
   match args,hl with
   |[a,b],_ =>
    rw[Ex.uA,BG];obtain⟨h1,h2,h3,h4⟩:=alF h;simp[Ex.sz,Ex.ri]at hn;have ia:=rK row n a ah h1;have ib:=rK row n b ah h2;rw[h4,Zq h3,<-ia,<-ib]
    by_cases hA:(holdL row a.split).1=true
    ·simp[hA]
    simp[hA]
  rw[Ex.qw hs];exact yI h
theorem yH {row:List Val}{l:List Ex}(h:(bL row l).2=0):row.all Val.may=true/\bL row l=holdL row l:=by
 unfold bL at h ⊢
 split at h
 ·rename_i h1
  split at h
  ·rename_i h2;exact⟨h2,by rw[ay h1,ay h2]⟩
  simp at h
 simp at h
def lK (op:Int)(e:Ex):Ex:=.mk op ⟨0,0,[]⟩ [] [] 0 [e]
theorem PU {row:List Val}{e:Ex}(h:(holdL row [e]).2=0):(e.ev row).2=0:=by
 unfold holdL at h
 by_cases h1:(e.ev row).2≠0
 ·rw[ay h1]at h;exact h
 exact not_not.1 h1
theorem apN (p:Ex) (it:List Ex) (row:List Val) (ha:pQ p.split it row) (hb:pQ [lK 5 p] it row) (hc:pQ [lK 6 p] it row):
  pQ [] it row/\(gQ [] it row).Perm (gQ p.split it row++gQ [lK 5 p] it row++gQ [lK 6 p] it row):=by
 obtain⟨a1,a2⟩:=ha;obtain⟨b1,b2⟩:=hb;obtain⟨c1,c2⟩:=hc;obtain⟨hm,ea⟩:=yH a1;obtain⟨_,eb⟩:=yH b1;obtain⟨_,ec⟩:=yH c1;have e0:bL row []=(true,0):=by unfold bL;simp only[Ex.Jd,if_true,hm,holdL]
 unfold pQ gQ;rw[ea]at a1 a2 ⊢;rw[eb]at b1 b2 ⊢;rw[ec]at c1 c2 ⊢;rw[e0];have eb0:=PU b1;have ec0:=PU c1;have hb:=yI eb0;have hc:=yI ec0;unfold lK at eb0 ec0;obtain⟨p0,n0,n1⟩:=ahr (.inl rfl) eb0;obtain⟨_,_,i1⟩:=ahr (.inr rfl) ec0;have ha:=rK row p.sz p (aL _) p0;unfold lK at hb hc;rw[n1]at hb;rw[i1]at hc;generalize (p.ev row).1=v at *;have u5:Vu 5 v=Dy v:=by simp[Vu]
 have u6:Vu 6 v=(dx (decide (v.kind=0)),0):=by simp[Vu]
 rw[u5]at n0 hb;rw[u6]at hc
 have hf:iN 3 [v]=0:=by
  unfold Dy at n0
  split at n0
  ·exact n0
  rename_i h;exact not_not.1 (not_or.1 h).1
 obtain⟨vm,vk⟩:=aq2 hf v ai
 have one:((holdL row p.split).1=true/\(holdL row [lK 5 p]).1≠true/\(holdL row [lK 6 p]).1≠true)∨((holdL row p.split).1≠true/\(holdL row [lK 5 p]).1=true/\(holdL row [lK 6 p]).1≠true)∨((holdL row p.split).1≠true/\(holdL row [lK 5 p]).1≠true/\(holdL row [lK 6 p]).1=true):=by
  unfold lK;rw[Ne,Ne,Ne,ha,hb,hc]
  rcases vk with k0|k3
  ·right;right
   refine⟨λ h=>?_,λ h=>?_,?_⟩
   ·rw[h]at k0;simp[dx]at k0
   ·simp[Dy,k0,fq,dx]at h
   simp[k0]
  have hi:¬dx (decide (v.kind=0))=dx true:=by simp[k3,dx]
  rcases ajG vm k3 with rfl|rfl
  ·right;left
   refine⟨Jk,?_,hi⟩;unfold Dy;rw[ak (λ h=>h.elim (λ h=>h hf) (by simp[dx]))];rfl
  left
  refine⟨rfl,?_,hi⟩;unfold Dy;rw[ak (λ h=>h.elim (λ h=>h hf) (by simp[dx]))];simp[dx]
 rcases one with⟨h1,h2,h3⟩|⟨h1,h2,h3⟩|⟨h1,h2,h3⟩
 ·exact⟨⟨rfl,λ _=>a2 h1⟩,by simp[h1,h2,h3]⟩
 ·exact⟨⟨rfl,λ _=>b2 h2⟩,by simp[h1,h2,h3]⟩
 exact⟨⟨rfl,λ _=>c2 h3⟩,by simp[h1,h2,h3]⟩
mutual
theorem Ex.ahL (ns:List (List Nat)) (ts:List bR):∀(e:Ex){err:Int},err≠0->(e.bd ns ts err).2.2=err
 |.mk op v t m cD args,err,h=>by
  unfold Ex.bd
  split
  ·split
   ·rfl
   exact DL h _ _
  split
  ·rfl
  show keep _ _ _=_;rw[Ex.Zw ns ts args h];exact DL h _ _
theorem Ex.Zw (ns:List (List Nat))(ts:List bR):∀(l:List Ex){err:Int},err≠0->(Ex.m6 ns ts l err).2.2=err
 |[],err,_=>rfl
 |e::r,err,h=>by
  unfold Ex.m6;show (Ex.m6 ns ts r (e.bd ns ts err).2.2).2.2=err;rw[Ex.ahL ns ts e h];exact Ex.Zw ns ts r h
end
theorem JW {e a:Int}{b:Bool}(h:keep e a b=0):e=0:=Classical.byContradiction λ hn=>hn (by rw[DL hn]at h;exact h)
def eY (q:bG):dE:={dE.z 8 with q:=q}
def bG.wh (q:bG)(e:Ex):bG:={q with cond:=e}
theorem asf {s:cG}(hs:s.gA){q:bG}(hx:(eY q).sm)(hor:q.order=[]):aj pG 23 [lj.av s,(eY q).av] (.br [.agg (cu s (eY q)).1.cells 25,zI (cu s (eY q)).2]):=by
 have aw0:aj pG 113 [.agg (eY q).q.cells 15] (.bool (eY q).q.may):=aeR q hx.qc hx.order hx.ar hx.items hx.item hx.src;refine ams s hs _ (akL _ hx λ F K Q E fin=>afu _ hx aw0 rfl F K Q E fin) λ ok ho F K Q E fin=>?_;have ok':(eY q).q.may=true:=by simpa[dE.ok,eY,dE.z]using ok
 have hq:=bG.P0 ho hx ok';exact agn s hs _ hq (P6 hq.cz hq.cm) (λ y hy=>P6 (hq.sr y hy).1 (hq.sr y hy).2) (Yo (Yj hq.it)) (W8 hor) rfl F K Q E fin
def onQ (s:cG)(q:bG):List (List Ex)×Int:=rp (q.ar.map Src.nm) (q.ar.map s.tb) q.ar q.ar.length 0
def DT (s:cG)(q:bG):List Ex×List (List Nat)×List Int×Int:=cL (q.ar.map Src.nm) (q.ar.map s.tb) q (onQ s q).2
def mD (s:cG)(q:bG)(L:List Ex):oU:={kind:=8,iM:=q.ar.map s.tb,on:=(onQ s q).1,items:=(DT s q).1,names:=(DT s q).2.1,kinds:=(DT s q).2.2.1,cond:=L,kE:=q.kE,limited:=q.limited,limit:=q.limit}
def cdQ (s:cG)(q:bG)(e:Ex):List Ex×Int:=ew (q.ar.map Src.nm) (q.ar.map s.tb) e (DT s q).2.2.2
theorem Be {s:cG}{q:bG}(ho:q.order=[])(h:kR s q.ar q.ar.length 0=0):gq s q 8 0=(mD s q (cdQ s q q.cond).1,(cdQ s q q.cond).2):=by
 unfold gq;rw[ak (by simpa using h),ho];rfl
theorem JB {s:cG}{q:bG}(h:(gq s q 8 0).2=0):kR s q.ar q.ar.length 0=0:=by
 unfold gq at h
 split at h
 ·exact h
 rename_i hn;exact not_not.1 hn
theorem Ex.X2 {e:Ex}(h:e.may=true):e.op≠0:=by
 obtain⟨op,v,t,m,cD,args⟩:=e;unfold Ex.may at h;rintro rfl;simp at h
theorem xM (q:bG):(eY q).may=q.may:=by
 have hc:(eY q).cut=eY q:=rfl;have hb:vJ.bare 0:=by simp[vJ,Ex.bare]
 have hk:(eY q).ok=q.may:=rfl;unfold dE.may;rw[hc,hk]
 cases h:q.may with
 |false=>rfl
 |true =>
  have hm:q.cond.maybe=true:=by
   simp only[bG.may,dU]at h;exact h.1.1.1.1.1.1.1.1
  have:vN q.cond q.cond=true:=by
   unfold Ex.maybe at hm;simp only[Bool.or_eq_true,decide_eq_true_eq]at hm
   rcases hm with hm|hm
   ·simp[vN,hm]
   simp[vN,Ex.X2 hm]
  have hz:vN vJ vJ=true:=by simp[vN,hb]
  simp[G0,eY,dE.z,this,hz]
structure fW (s:cG)(q:bG)(L:List Ex):Prop where
 so:fN s
 may:q.may=true
 src:kR s q.ar q.ar.length 0=0
 cd:cdQ s q q.cond=(L,0)
 eq:cu s (eY q)=(mD s q L,0)
theorem fW.of {s:cG}{q:bG}(ho:q.order=[])(h:(cu s (eY q)).2=0):fW s q (cdQ s q q.cond).1:=by
 have hb:vQ s (eY q)=gq s q 8 0:=rfl;unfold cu at h;rw[xM]at h
 split at h
 ·rename_i h1;rw[hb]at h;unfold Eb at h
  split at h
  ·rename_i h2;have hs:=JB h2;have e:=Be ho hs;rw[e]at h2;have h2:(cdQ s q q.cond).2=0:=h2;refine⟨h1.1,h1.2,hs,by rw[<-h2],?_⟩;unfold cu Eb;rw[xM,ay h1,hb,e,ay h2,h2]
  rename_i h2;exact aw h h2
 simp at h
theorem fW.mk' {s:cG}{q:bG}(ho:q.order=[]){L:List Ex}(so:fN s)(may:q.may=true)(src:kR s q.ar q.ar.length 0=0)(cd:cdQ s q q.cond=(L,0)):fW s q L:=by
 refine⟨so,may,src,cd,?_⟩;have hb:vQ s (eY q)=gq s q 8 0:=rfl;unfold cu Eb;rw[xM,ay ⟨so,may⟩,hb,Be ho src,cd,ay rfl]
theorem ahF {ns:List (List Nat)}{ts:List bR}{e:Ex}{err:Int}(hb:¬e.bare 0)(h:(ew ns ts e err).2=0):err=0/\ew ns ts e err=((e.bd ns ts 0).1.split,0):=by
 have h':=h;unfold ew at h' ⊢;rw[ak hb]at h' ⊢;have e0:err=0:=Classical.byContradiction λ hn=>hn (by have:=JW h';rwa [Ex.ahL ns ts e hn]at this);subst e0;exact⟨rfl,Prod.ext rfl h'⟩
theorem Jr {s:cG}{q:bG}{p:Ex}(ho:q.order=[])(h1:(cu s (eY (q.wh p))).2=0)(h2:(cu s (eY (q.wh (lK 5 p)))).2=0)(h3:(cu s (eY (q.wh (lK 6 p)))).2=0):
  ∃p',p'.sz<=p.sz/\fW s (q.wh p) p'.split/\fW s (q.wh (lK 5 p)) [lK 5 p']/\fW s (q.wh (lK 6 p)) [lK 6 p']/\fW s (q.wh vJ) []:=by
 have b1:=fW.of (q:=q.wh p) ho h1;have b2:=fW.of (q:=q.wh (lK 5 p)) ho h2;have b3:=fW.of (q:=q.wh (lK 6 p)) ho h3
 have key:∀op,(op=5∨op=6)->∀L,fW s (q.wh (lK op p)) L->(DT s q).2.2.2=0/\L=[lK op (p.bd (q.ar.map Src.nm) (q.ar.map s.tb) 0).1]/\p.may=true:=λ op hop L b=>by
  have hnb:¬(lK op p).bare 0:=λ h=>by simp[lK,Ex.bare]at h
  have hm:(lK op p).may=true:=by
   have:=b.may;simp only[bG.may,dU]at this;have hm:(lK op p).maybe=true:=this.1.1.1.1.1.1.1.1;unfold Ex.maybe at hm;simpa[hnb]using hm
  have hpm:p.may=true:=by
   unfold lK Ex.may at hm;rw[ak ah,ak ah]at hm;simp only[dU,Ex.wc]at hm;exact hm.2.2.2.1
  have cd:ew (q.ar.map Src.nm) (q.ar.map s.tb) (lK op p) (DT s q).2.2.2=(L,0):=b.cd;obtain⟨e0,e1⟩:=ahF hnb (by rw[cd]);rw[e1]at cd;injection cd with cd _;refine⟨e0,?_,hpm⟩;rw[<-cd];unfold lK;rw[Ex.bd,ak ah,ak ah];rw[Ex.qw ah];rfl
 obtain⟨e0,k2,pm⟩:=key 5 (.inl rfl) _ b2;obtain⟨_,k3,_⟩:=key 6 (.inr rfl) _ b3;have hnb:¬p.bare 0:=λ h=>Ex.X2 pm (by unfold Ex.bare at h;cases p;simp at h;exact h.1)
 have cd1:=ahF (ns:=q.ar.map Src.nm) (ts:=q.ar.map s.tb) (err:=(DT s q).2.2.2) hnb (by
  have:cdQ s (q.wh p) p=(_,0):=b1.cd;exact congrArg Prod.snd this)
 have k1:(cdQ s (q.wh p) p).1=(p.bd (q.ar.map Src.nm) (q.ar.map s.tb) 0).1.split:=congrArg Prod.fst cd1.2;refine⟨(p.bd (q.ar.map Src.nm) (q.ar.map s.tb) 0).1,Ex.IB _ _ _ _,by rw[<-k1];exact b1,by rw[<-k2];exact b2,by rw[<-k3];exact b3,fW.mk' (q:=q.wh vJ) ho b1.so ?_ b1.src ?_⟩
 ·have:=b1.may;have hz:vJ.maybe=true:=by simp[Ex.maybe,vJ,Ex.bare]
  simp only[bG.may,bG.wh,dU]at this ⊢;exact⟨⟨⟨⟨⟨⟨⟨⟨hz,this.1.1.1.1.1.1.1.2⟩,this.1.1.1.1.1.1.2⟩,this.1.1.1.1.1.2⟩,this.1.1.1.1.2⟩,this.1.1.1.2⟩,this.1.1.2⟩,this.1.2⟩,this.2⟩
 show ew _ _ vJ (DT s q).2.2.2=([],0);unfold ew;rw[ay (by simp[vJ,Ex.bare]),e0]
theorem VU {s:cG}{l:List Src}:∀n,kR s l n 0=0->∀i,i<n->(s.named (vv l i).table).2=true
 |0,_,i,hi=>ah
 |n + 1,h,i,hi=>by
  unfold kR at h;have h1:=JW h;have h0:=JW h1
  by_cases e:i=n
  ·subst e;rw[h0]at h1
   cases hb:(s.named (vv l i).table).2 with
   |true=>rfl
   |false=>rw[hb]at h1;simp[keep]at h1
  exact VU n h0 i ah
theorem XV {s:cG}{name:List Nat}(h:(s.named name).2=true):(s.named name).1∈s.tables:=by
 unfold cG.named jt at h ⊢
 split at h
 ·rename_i t ht;exact mem_of_find?_eq_some ht
 simp at h
theorem TS {e:Ex}(h:e.sz<=aU):e.split.length<=aU/\∀x∈e.split,x.sz<=aU:=by
 have h1:=(Ex.mN _ e (aL _)).1;exact⟨by have:=Ex.rJ e.split;omega,λ x hx=>by have:=Ex.rI hx;omega⟩
theorem BU {ns:List (List Nat)}{ts:List bR}{e:Ex}{err:Int}(h:e.sz<=aU):(ew ns ts e err).1.length<=aU/\∀x∈(ew ns ts e err).1,x.sz<=aU:=by
 unfold ew
 split
 ·simp
 exact TS (vY (Ex.IB ns ts e err) h)
theorem Pq {ns:List (List Nat)}{ts:List bR}{l:List Src}(h:∀y∈l,y.cond.sz<=aU):∀n err,n<=l.length->∀c∈(rp ns ts l n err).1,c.length<=aU/\∀e∈c,e.sz<=aU
 |0,err,_,c,hc=>by simp[rp]at hc
 |n + 1,err,hn,c,hc=>by
  unfold rp at hc
  rcases mem_append.1 hc with hc|hc
  ·exact Pq h n err ah c hc
  rw[mc]at hc;subst hc;refine BU ?_;rw[te ah];exact h _ (dy _)
theorem DN {ns:List (List Nat)}{ts:List bR}:∀ {l:List nD}(err:Int),(∀y∈l,y.e.sz<=aU)->∀e∈(jZ ns ts l err).1,e.sz<=aU
 |[],err,_,e,he=>by simp[jZ]at he
 |x::r,err,h,e,he=>by
  unfold jZ at he
  rcases mem_cons.1 he with rfl|he
  ·exact vY (Ex.IB ns ts x.e err) (h x ai)
  exact DN _ (λ y hy=>h y (by simp[hy])) e he
theorem fW.ok {w:qf}(ok:iV w) (hg:w.aY.pq){q:bG}{L:List Ex}(hx:(eY q).sm) (b:fW w.aY q L) (hd:q.kE=false) (hm:q.limited=false) (hL:L.length<=aU/\∀e∈L,e.sz<=aU):ajh w (mD w.aY q L) q.ar.length:=by
 have hq:=bG.P0 b.so hx b.may;have hk:(aI (q.ar.map w.aY.tb)).length+q.items.length<=aU:=hq.k
 have h4:q.ar.length<=4:=by
  have:=b.may;simp only[bG.may,dU,decide_eq_true_eq]at this;exact this.1.1.1.1.1.1.1.2
 have jf:∀t∈q.ar.map w.aY.tb,t∈w.aY.tables:=λ t ht=>by
  obtain⟨y,hy,rfl⟩:=mem_map.1 ht;obtain⟨i,hi,rfl⟩:=getElem_of_mem hy;have:=VU _ b.src i hi;rw[te hi]at this;exact XV this
 have hit:=DR (q.ar.map Src.nm) (q.ar.map w.aY.tb) q.items;have hns:(namesT (q.ar.map w.aY.tb)).length=(aI (q.ar.map w.aY.tb)).length:=by simp[namesT,aI,bR.kinds,length_flatMap]
 have hI:(DT w.aY q).1.length<=aU/\(∀e∈(DT w.aY q).1,e.sz<=aU)/\(DT w.aY q).2.1.length<=aU/\(DT w.aY q).2.2.1.length<=aU:=by
  unfold DT cL
  split
  ·simp only[length_append,hit,hns,BX,length_map];refine⟨hk,λ e he=>?_,hk,hk⟩
   rcases mem_append.1 he with he|he
   ·obtain⟨i,_,rfl⟩:=mem_map.1 he;simp[Zd,Ex.sz,Ex.ri,aU]
   exact DN _ (λ y hy=>hx.item y hy) e he
  simp only[hit,length_map];exact⟨ah,DN _ λ y hy=>hx.item y hy,ah,ah⟩
 refine⟨by simp[mD],by simp[mD];omega,by simp[mD,onQ,Dw],λ l hl=>Pq hx.src _ _ (aL _) l hl,hL.1,hL.2,hI.1,hI.2.1,hI.2.2.1,hI.2.2.2,rfl,hd,hm,λ t ht=>?_,λ T hT=>?_⟩
 ·obtain⟨k,hk,_,e⟩:=b.so.at hg (jf t ht);exact⟨k,by rw[ok.l];exact hk,e⟩
 obtain⟨i,hi,rfl⟩:=getElem_of_mem hT;have hR:=ok.t i hi (by rw[<-ok.l];exact hi);refine⟨by have:=hR.len;omega,λ r hr=>?_⟩;obtain⟨_,_,h1,h2,_⟩:=tP (HZ hR.fits r hr);exact⟨h1,ah⟩
end Go.Abs
namespace Go.Abs
open List
open Go.Proofs
set_option maxRecDepth 100000
open Classical
variable {α:Type}{C:Cm α}
structure Nd (C:Cm α)(H:Hp)(d:List α)(N:Nat):Prop where
 hd:Dt C H d
 J:C.J H
 l:d.length=N
 b:N<1000000
 c:∀i j (hi:i<d.length) (hj:j<d.length),i<j->C.El d[i]/\C.El d[j]/\¬C.c d[j] d[i]<0
theorem Nd.cmp {H:Hp}{d:List α}{N:Nat}(S:Nd C H d N){i j:Nat}(hij:i<j)(hj:j<N):∃x y,cN (.ptr C.bk j) H=.val (C.av y)/\cN (.ptr C.bk i) H=.val (C.av x)/\C.El y/\C.El x/\¬C.c y x<0/\bW 1 (.sl C.bk 0 N 1) (zI (j:Int))=.val (.ptr C.bk j)/\bW 1 (.sl C.bk 0 N 1) (zI (i:Int))=.val (.ptr C.bk i):=by
 have hl:=S.l;obtain⟨h1,h2,h3⟩:=S.c i j ah ah hij;exact⟨d[i]'ah,d[j]'ah,S.hd.ld ah,S.hd.ld ah,h2,h1,h3,bK hj,bK ah⟩
def ZN (g:Nat)(args:List AV)(H:Hp)(n:Nat):Prop:=ao pG g args H n (λ w K j=>w=.br []/\K=H/\j=n)
theorem PR (ho:C.Ok pG){H:Hp}{n:Nat}{d:List α}{N:Nat}(S:Nd C H d N){a b:Nat}(hbN:b<=N)(ha:a<=N):ZN 265 [.sl C.bk 0 N 1,zI (a:Int),zI (b:Int),C.fv] H n:=by
 refine ao.of c265 (by simp[A265]) λ F hF=>?_;have hb:=S.b;have w0:IntKind.i64.wrap ((a:Int)+1)=((a+1:Nat):Int):=by rw[aR _ ah ah];omega
 simp[A265,hF,w0];refine aF.of (λ t F' K n' ms=>∃e,t=b - e/\a<e/\F'.get 0=some (.sl C.bk 0 N 1)/\F'.get 1=some (zI (a:Int))/\F'.get 2=some (zI (b:Int))/\F'.get 3=some C.fv/\F'.get 8=some (zI (e:Int))/\H=K/\n=n'/\ms=[]) (b - (a+1)) ⟨a+1,rfl,ah,by simp[hF],by simp[hF],by simp[hF],by simp[hF],ai,rfl,rfl,rfl⟩ ?_;rintro t F1 K n' ms ⟨e,rfl,hae,f0,f1,f2,f3,f8,rfl,rfl,rfl⟩
 by_cases hlt:e<b
 ·obtain⟨x,y,l1,l2,hy,hx,hn,x1,x2⟩:=S.cmp (show e - 1<e by omega) ah;have w2:IntKind.i64.wrap ((e:Int) - 1)=((e - 1:Nat):Int):=by rw[aR _ ah ah];omega
  have w3:IntKind.i64.wrap ((e:Int)+1)=((e+1:Nat):Int):=by rw[aR _ ah ah];omega
  obtain⟨A,hA⟩:∃A,A=e - 1:=⟨_,rfl⟩;rw[<-hA]at w2 l2 x2;simp[vj,f8,f2,hlt];refine aF.XO 0 (eT.step ?_);simp[zS];refine bF.of (C.iT ho hy hx) ?_;simp[ae,f0,f1,f3,hae,Cm.fv,w2,x1,x2,l1,l2,Cm.ei S.J,hn,ER,f8,w3];exact⟨b - (e+1),ah,e+1,rfl,ah,f2,ah⟩
 simp[vj,f8,f2,hlt]
theorem VT (ho:C.Ok pG){H:Hp}{n:Nat}{d:List α}{N:Nat}(S:Nd C H d N){a m b mid nn st r:Nat}(h1:a<m) (h2:m<b) (h3:b<=N) (hm:2*mid<=a+b/\a+b<=2*mid+1) (hnn:nn=mid+m) (hc:(mid<m/\r=mid/\st+b=nn)∨(m<=mid/\r=m/\st=a)) (hab:a+2<b)
  (ih:∀a' m' b',b' - a'<b - a->a'<m'->m'<b'->b'<=N->ZN 266 [.sl C.bk 0 N 1,zI (a':Int),zI (m':Int),zI (b':Int),C.fv] H n)
  {F':Fr}(f0:F'.get 0=some (.sl C.bk 0 N 1)) (f1:F'.get 1=some (zI (a:Int))) (f2:F'.get 2=some (zI (m:Int))) (f3:F'.get 3=some (zI (b:Int))) (f4:F'.get 4=some C.fv) (f18:F'.get 18=some (zI (mid:Int))) (f19:F'.get 19=some (zI (nn:Int))) (f20:F'.get 20=some (zI (st:Int))) (f21:F'.get 21=some (zI (r:Int))):
  VC pG EP F' H n [] (nj pG (.seq (.block 8 (.loop Gu)) (.seq ug (.seq (.seq uf (.cond (aA 185) Rx .skip)) (.seq (.seq ue (.cond (aA 199) EO .skip)) (.seq ud (.cond (aA 213) EN .skip)))))) (kH [] λ w K j=>w=.br []/\K=H/\j=n)):=by
 have hb:=S.b;obtain⟨pp,hpp⟩:∃pp,pp=nn - 1:=⟨_,rfl⟩;have w4:IntKind.i64.wrap ((nn:Int) - 1)=(pp:Int):=by rw[aR _ ah ah];omega
 have hsr:st<=r:=ah;simp[EP,f19,w4];refine aF.of (λ t F' K n' ms=>∃i,t=r - i/\st<=i/\i<=r/\F'.get 0=some (.sl C.bk 0 N 1)/\F'.get 1=some (zI (a:Int))/\F'.get 2=some (zI (m:Int))/\F'.get 3=some (zI (b:Int))/\F'.get 4=some C.fv/\F'.get 18=some (zI (mid:Int))/\F'.get 19=some (zI (nn:Int))/\F'.get 20=some (zI (i:Int))/\F'.get 21=some (zI (r:Int))/\F'.get 22=some (zI (pp:Int))/\H=K/\n=n'/\ms=[]) (r - st) ⟨st,rfl,aL _,hsr,by simp[f0],by simp[f1],by simp[f2],by simp[f3],by simp[f4],by simp[f18],by simp[f19],by simp[f20],by simp[f21],ai,rfl,rfl,rfl⟩ ?_;clear f0 f1 f2 f3 f4 f18 f19 f20 f21 hsr;rintro t F1 K n' ms ⟨i,rfl,hi1,hi2,f0,f1,f2,f3,f4,f18,f19,f20,f21,f22,rfl,rfl,rfl⟩
 by_cases hlt:i<r
 ·obtain⟨q,hq⟩:∃q,q=(i+r) / 2:=⟨_,rfl⟩;obtain⟨B,hB⟩:∃B,B=pp - q:=⟨_,rfl⟩;obtain⟨T,hT⟩:∃T,T=i+r:=⟨_,rfl⟩;have hiq:i<=q/\q<r:=ah;have w5:IntKind.i64.wrap ((i:Int)+(r:Int))=(T:Int):=by rw[aR _ ah ah];omega
  have w6:IntKind.i64.wrap ((pp:Int) - (q:Int))=(B:Int):=by rw[aR _ ah ah];omega
  have w7:IntKind.i64.wrap ((q:Int)+1)=((q+1:Nat):Int):=by rw[aR _ ah ah];omega
  have hs:=aey T;rw[hT,<-hq,<-hT]at hs;have hs2:=Jp T ah;have hs3:=US q ah;obtain⟨x,y,l1,l2,hy,hx,hn,x1,x2⟩:=S.cmp (show q<B by omega) ah;simp[Gu,f20,f21,hlt,w5,hs,hs2,hs3];refine bF.of (C.iT ho hy hx) ?_;simp[ae,f0,f4,f22,Cm.fv,w6,x1,x2,l1,l2,Cm.ei S.J,hn,Ry,w7];exact⟨r - (q+1),ah,q+1,rfl,ah,ah,f1,f2,f3,f18,f19,ah,f21⟩
 obtain rfl:r=i:=ah;simp[Gu,f20,f21]
 rcases hc with⟨c1,rfl,c2⟩|⟨c1,rfl,c2⟩
 ·have w8:IntKind.i64.wrap ((nn:Int) - (r:Int))=(m:Int):=by rw[aR _ ah ah];omega
  simp[ug,f19,f20,w8,uf,f2,c1,ue,f1,f18,show a<r by omega,ud,f3,h2,EN,f0,f4];refine aB.of (ih r m b ah ah ah h3) λ w K j ⟨q1,q2,q3⟩=>?_;subst q1 q2 q3;simp
 have w8:IntKind.i64.wrap ((nn:Int) - (r:Int))=(mid:Int):=by rw[aR _ ah ah];omega
 by_cases c3:r<mid
 ·simp[ug,f19,f20,w8,uf,f2,ue,f1,f18,h1,c3,EO,f0,f4];refine aB.of (ih a r mid ah ah ah ah) λ w K j ⟨q1,q2,q3⟩=>?_;subst q1 q2 q3;simp[ud,f18]
 simp[ug,f19,f20,w8,uf,f2,ue,f1,f18,h1,c3,ud]
theorem CZ (ho:C.Ok pG){H:Hp}{n:Nat}{d:List α}{N:Nat}(S:Nd C H d N):∀(k a m b:Nat),b - a<=k->a<m->m<b->b<=N->ZN 266 [.sl C.bk 0 N 1,zI (a:Int),zI (m:Int),zI (b:Int),C.fv] H n
 |0,a,m,b,hk,h1,h2,h3=>ah
 |k + 1,a,m,b,hk,h1,h2,h3=>by
  have hb:=S.b;refine ao.of c266 (by simp[A266]) λ F hF=>?_
  by_cases c1:m=a+1
  ·have w1:IntKind.i64.wrap ((m:Int) - (a:Int))=1:=by rw[aR _ ah ah];omega
   simp[A266,hF,w1];refine aF.of (λ t F' K n' ms=>∃j,t=j - m/\m<=j/\j<=b/\F'.get 0=some (.sl C.bk 0 N 1)/\F'.get 1=some (zI (a:Int))/\F'.get 4=some C.fv/\F'.get 10=some (zI (m:Int))/\F'.get 11=some (zI (j:Int))/\H=K/\n=n'/\ms=[]) (b - m) ⟨b,rfl,ah,ah,by simp[hF],by simp[hF],by simp[hF],ai,ai,rfl,rfl,rfl⟩ ?_;rintro t F' K n' ms ⟨j,rfl,hj1,hj2,f0,f1,f4,f10,f11,rfl,rfl,rfl⟩
   by_cases hlt:m<j
   ·obtain⟨q,hq⟩:∃q,q=(m+j) / 2:=⟨_,rfl⟩;obtain⟨T,hT⟩:∃T,T=m+j:=⟨_,rfl⟩;have w2:IntKind.i64.wrap ((m:Int)+(j:Int))=(T:Int):=by rw[aR _ ah ah];omega
    have hs:=aey T;rw[hT,<-hq,<-hT]at hs;have hs2:=Jp T ah;have hs3:=US q ah;obtain⟨x,y,l1,l2,hy,hx,hn,x1,x2⟩:=S.cmp (show a<q by omega) ah;simp[N9,f10,f11,hlt,w2,hs,hs2,hs3];refine bF.of (C.iT ho hy hx) ?_;simp[ae,f0,f1,f4,Cm.fv,x1,x2,l1,l2,Cm.ei S.J,hn,ab8,f10];exact⟨q - m,ah,q,rfl,ah,ah,rfl⟩
   obtain rfl:m=j:=ah;have w5:IntKind.i64.wrap ((m:Int) - 1)=(a:Int):=by rw[aR _ ah ah];omega
   simp[N9,f10,f11,ab7,f1];refine aF.XO 0 (eT.step ?_);simp[adX,f10,w5]
  have w1:¬IntKind.i64.wrap ((m:Int) - (a:Int))=1:=by rw[aR _ ah ah];omega
  by_cases c2:b=m+1
  ·have w1':IntKind.i64.wrap ((b:Int) - (m:Int))=1:=by rw[aR _ ah ah];omega
   simp[A266,hF,w1,w1'];refine aF.of (λ t F' K n' ms=>∃i,t=m - i/\a<=i/\i<=m/\F'.get 0=some (.sl C.bk 0 N 1)/\F'.get 2=some (zI (m:Int))/\F'.get 4=some C.fv/\F'.get 14=some (zI (i:Int))/\F'.get 15=some (zI (m:Int))/\H=K/\n=n'/\ms=[]) (m - a) ⟨a,rfl,ah,ah,by simp[hF],by simp[hF],by simp[hF],ai,ai,rfl,rfl,rfl⟩ ?_;rintro t F' K n' ms ⟨i,rfl,hi1,hi2,f0,f2,f4,f10,f11,rfl,rfl,rfl⟩
   by_cases hlt:i<m
   ·obtain⟨q,hq⟩:∃q,q=(i+m) / 2:=⟨_,rfl⟩;obtain⟨T,hT⟩:∃T,T=i+m:=⟨_,rfl⟩;have w2:IntKind.i64.wrap ((i:Int)+(m:Int))=(T:Int):=by rw[aR _ ah ah];omega
    have hs:=aey T;rw[hT,<-hq,<-hT]at hs;have hs2:=Jp T ah;have hs3:=US q ah;have w3:IntKind.i64.wrap ((q:Int)+1)=((q+1:Nat):Int):=by rw[aR _ ah ah];omega
    obtain⟨x,y,l1,l2,hy,hx,hn,x1,x2⟩:=S.cmp (show q<m by omega) ah;simp[N8,f10,f11,hlt,w2,hs,hs2,hs3];refine bF.of (C.iT ho hy hx) ?_;simp[ae,f0,f2,f4,Cm.fv,x1,x2,l1,l2,Cm.ei S.J,hn,RA,w3,f11];exact⟨m - (q+1),ah,q+1,rfl,ah,ah,ah⟩
   obtain rfl:m=i:=ah;simp[N8,f10,f11,Rz,f2];refine aF.XO 0 (eT.step ?_);simp[adW,f10]
  have w1':¬IntKind.i64.wrap ((b:Int) - (m:Int))=1:=by rw[aR _ ah ah];omega
  obtain⟨mid,hmid⟩:∃mid,mid=(a+b) / 2:=⟨_,rfl⟩;obtain⟨nn,hnn⟩:∃nn,nn=mid+m:=⟨_,rfl⟩;obtain⟨T,hT⟩:∃T,T=a+b:=⟨_,rfl⟩;have w2:IntKind.i64.wrap ((a:Int)+(b:Int))=(T:Int):=by rw[aR _ ah ah];omega
  have hs:=aey T;rw[hT,<-hmid,<-hT]at hs;have hs2:=Jp T ah;have hs3:=US mid ah;have w3:IntKind.i64.wrap ((mid:Int)+(m:Int))=(nn:Int):=by rw[aR _ ah ah];omega
  have ih:=λ a' m' b' (h:b' - a'<b - a)=>CZ (n:=n) ho S k a' m' b' ah;have key:=λ {st r:Nat} {F':Fr} hc=>VT ho S (F':=F') (st:=st) (r:=r) h1 h2 h3 (show 2*mid<=a+b/\a+b<=2*mid+1 by omega) hnn hc ah ih
  by_cases hgt:mid<m
  ·have w4:IntKind.i64.wrap ((nn:Int) - (b:Int))=((nn - b:Nat):Int):=by rw[aR _ ah ah];omega
   have hst:nn - b+b=nn:=ah;generalize nn - b=st at w4 hst;simp[A266,hF,w1,w1',w2,hs,hs2,hs3,w3,hgt,w4];exact key (.inl ⟨hgt,rfl,hst⟩) (by simp[hF]) (by simp[hF]) (by simp[hF]) (by simp[hF]) (by simp[hF]) ai ai ai ai
  simp[A266,hF,w1,w1',w2,hs,hs2,hs3,w3,hgt];exact key (.inr ⟨ah,rfl,rfl⟩) (by simp[hF]) (by simp[hF]) (by simp[hF]) (by simp[hF]) (by simp[hF]) ai ai ai ai
theorem Ju (ho:C.Ok pG){H:Hp}{n:Nat}{d:List α}{N:Nat}(S:Nd C H d N):ZN 203 [.sl C.bk 0 N 1,zI (N:Int),C.fv] H n:=by
 have hb:=S.b;refine ao.of c203 (by simp[A203]) λ F hF=>?_;simp[A203];refine aF.of (λ t F' K n' ms=>∃a b:Nat,t=N - a/\a<=N/\b=a+20/\F'.get 0=some (.sl C.bk 0 N 1)/\F'.get 1=some (zI (N:Int))/\F'.get 2=some C.fv/\F'.get 6=some (zI 20)/\F'.get 7=some (zI (a:Int))/\F'.get 8=some (zI (b:Int))/\H=K/\n=n'/\ms=[]) N ⟨0,20,rfl,ah,rfl,by simp[hF],by simp[hF],by simp[hF],ai,ai,ai,rfl,rfl,rfl⟩ ?_;rintro t F1 K n' ms ⟨a,b,rfl,ha,hab,f0,f1,f2,f6,f7,f8,rfl,rfl,rfl⟩
 by_cases hle:b<=N
 ·have w1:IntKind.i64.wrap ((b:Int)+20)=((b+20:Nat):Int):=by rw[aR _ ah ah];omega
  simp[Oq,f8,f1,hle,f0,f7,f2];refine aB.of (PR ho S hle ha) λ w K j ⟨q1,q2,q3⟩=>?_;subst q1 q2 q3;simp[acI,acH,f8,f6,w1];exact⟨N - b,ah,b,rfl,hle,f0,f1,f2,rfl⟩
 simp[Oq,f8,f1,hle,acG,f0,f7,f2];refine aB.of (PR ho S (aL _) ha) λ w K0 j0 ⟨q1,q2,q3⟩=>?_;subst q1 q2 q3;simp;refine aF.of (λ t F' K n' ms=>∃B:Nat,t=N - B/\0<B/\F'.get 0=some (.sl C.bk 0 N 1)/\F'.get 1=some (zI (N:Int))/\F'.get 2=some C.fv/\F'.get 6=some (zI (B:Int))/\K0=K/\j0=n'/\ms=[]) (N - 20) ⟨20,rfl,ah,by simp[f0],by simp[f1],by simp[f2],by simp[f6],rfl,rfl,rfl⟩ ?_;clear f0 f1 f2 f6 f7 f8 hle hab ha;rintro t F2 K n' ms ⟨B,rfl,hB,f0,f1,f2,f6,rfl,rfl,rfl⟩
 by_cases hlt:B<N
 ·obtain⟨E,hE⟩:∃E,E=2*B:=⟨_,rfl⟩;have w0:IntKind.i64.wrap (2*(B:Int))=(E:Int):=by rw[aR _ ah ah];omega
  have w0':IntKind.i64.wrap ((B:Int)*2)=(E:Int):=by rw[aR _ ah ah];omega
  simp[On,f6,f1,hlt,w0];refine aF.of (λ t F' K n' ms=>∃a b:Nat,t=N - a/\a<=N/\b=a+E/\F'.get 0=some (.sl C.bk 0 N 1)/\F'.get 1=some (zI (N:Int))/\F'.get 2=some C.fv/\F'.get 6=some (zI (B:Int))/\F'.get 7=some (zI (a:Int))/\F'.get 8=some (zI (b:Int))/\K0=K/\j0=n'/\ms=[]) N ⟨0,E,rfl,ah,ah,by simp[f0],by simp[f1],by simp[f2],by simp[f6],ai,ai,rfl,rfl,rfl⟩ ?_;clear f0 f1 f2 f6;rintro t F3 K n' ms ⟨a,b,rfl,ha,hab,f0,f1,f2,f6,f7,f8,rfl,rfl,rfl⟩;obtain⟨m,hm⟩:∃m,m=a+B:=⟨_,rfl⟩;have wm:IntKind.i64.wrap ((a:Int)+(B:Int))=(m:Int):=by rw[aR _ ah ah];omega
  by_cases hle:b<=N
  ·have w1:IntKind.i64.wrap ((b:Int)+(E:Int))=((b+E:Nat):Int):=by rw[aR _ ah ah];omega
   simp[Oo,f8,f1,hle,f0,f7,f6,f2,wm];refine aB.of (CZ ho S _ a m b (aL _) ah ah hle) λ w K j ⟨q1,q2,q3⟩=>?_;subst q1 q2 q3;simp[Sj,Si,f8,f6,w0,w1];exact⟨N - b,ah,b,rfl,hle,f0,f1,f2,rfl⟩
  simp[Oo,f8,f1,hle,RZ,f7,f6,wm,RY]
  by_cases hlm:m<N
  ·simp[hlm,RX,f0,f7,f1,f2];refine aB.of (CZ ho S _ a m N (aL _) ah hlm (aL _)) λ w K j ⟨q1,q2,q3⟩=>?_;subst q1 q2 q3;simp[FD,f6,w0'];exact⟨N - E,ah,E,rfl,ah,f0,f1,f2,rfl⟩
  simp[hlm,FD,f6,w0'];exact⟨N - E,ah,E,rfl,ah,f0,f1,f2,rfl⟩
 simp[On,f6,f1,hlt]
theorem V2 (ho:C.Ok pG){H:Hp}{n:Nat}{d:List α}{N:Nat}(S:Nd C H d N):ZN 136 [.sl C.bk 0 N 1,C.fv] H n:=by
 refine ao.of c136 (by simp[A136]) λ F hF=>?_;simp[A136,hF];refine aB.of (Ju ho S) λ w K j ⟨q1,q2,q3⟩=>?_;subst q1 q2 q3;simp
end Go.Abs
namespace Go.Abs
open List
open Go.Proofs
set_option maxRecDepth 100000
def amL (_n:Nat)(L:List (List Val))(v:AV)(K:Hp)(n':Nat):Prop:=∃(b:Nat)(vs:List AV),v=.sl b 0 L.length 1/\b<n'/\(∃y,K.get b=some y/\OwnB y ((range L.length).map (OL vs)))/\vs.length=L.length/\∃n0,oG K n0 n' b vs L
theorem VX (L:List (List Val)) (hL:L.length<=100000) (hl:∀l∈L,l.length<=1048576) (hso:∀i j,i<j->j<L.length->¬dP (rM L j) (rM L i)<0) (H:Hp) (n:Nat):ao pG 58 [.ds (aQ L) L.length 1] H n (amL n L):=by
 refine ao.of c58 (by simp[A58]) λ F hF=>?_;have hbt:Nat.ble L.length big=true:=by rw[Nat.ble_eq];unfold big;omega
 have awQ:Nat.ble (24*L.length) 281474976710656=true:=by rw[Nat.ble_eq];omega
 simp[A58,hF]
 have e0:Qv [.aV (.slice none 0 0)] 1 24 n (zI 0) (zI (L.length:Int))=.new (.sl n 0 0 1) (.cells (L.length*1) [.aV (.slice none 0 0)] [] .nil):=by
  show (match Nat.ble 0 L.length&&Nat.ble L.length big&&Nat.ble (24*L.length) 281474976710656 with|true=>_|false=>_)=_;rw[hbt,awQ,vZ (Nat.zero_le _)];rfl
 simp[e0,hF]
 refine aF.of (λ k F K n' ms=>∃(i b:Nat) (vs:List AV),k=L.length - i/\i<=L.length/\vs.length=i/\F.get 9=some (.ds (aQ L) L.length 1)/\F.get 10=some (zI (L.length:Int))/\F.get 11=some (zI (i:Int))/\F.get 3=some (.sl b 0 i 1)/\ms=[] /\
  n<=n'/\n<=b/\b<n'/\(∀c,c<n->K.get c=H.get c)/\Tn K b L.length vs/\oG K n n' b vs L) L.length ⟨0,n,[],ah,ah,rfl,ai,ai,ai,ai,rfl,ah,aL _,ah,λ c hc=>by simp[show ¬c=n by omega],⟨.cells L.length [.aV (.slice none 0 0)] [] .nil,ai,.inl ⟨rfl,rfl⟩⟩,λ j hj=>by simp at hj⟩ ?_
 rintro k F K n1 ms ⟨i,b,vs,rfl,hi,hvl,f9,f10,f11,f3,rfl,g1,g2,g3,hK,hO,hR⟩;clear hF e0
 by_cases hlt:i<L.length
 ·have hx := kz (k:=.i64) hlt;simp[adM,f11,f10,hlt,f9,hx,f3];refine aB.of (Qr L[i] (hl _ (dy _)) K n1) λ w K2 n2 ⟨q1,q2,q3,q4⟩=>?_;have hw1:w.one=true:=by obtain⟨_,⟨e,_⟩|⟨c,_,e,_⟩⟩:=q2<;>rw[e]<;>rfl
  obtain⟨o1,o2⟩:=yt hw1;simp[o1,o2];refine Tn.app (vs:=vs) (v:=w) (N:=L.length) ?_ hvl.symm ah ai hw1 ah λ H' y hy ho hk=>?_
  ·obtain⟨y,hy,h⟩:=hO;exact⟨y,by simp[show ¬b=n2 by omega,q4 b ah,hy],h⟩
  have hk':∀c,c<n2->c≠b->H'.get c=K2.get c:=λ c hc hcb=>by rw[hk c ah hcb];simp[show ¬c=n2 by omega]
  simp[ail,f11,aE i ah,f9,f10];refine⟨L.length - (i+1),ah,i+1,rfl,hlt,n2+1,vs++[w],by simp[hvl],rfl,⟨rfl,rfl⟩,ah,ah,ah,λ c hc=>?_,⟨y,hy,.inr ho⟩,?_⟩
  ·rw[hk' c ah ah,q4 c ah,hK c hc]
  have hR':=hR.mv (K':=H') (n':=n2+1+1) (b':=n2+1) ah (λ c hc hcb=>by rw[hk' c ah hcb,q4 c hc]) (.inr ah);intro j hj;simp[hvl]at hj
  by_cases hji:j<i
  ·have e:OL (vs++[w]) j=OL vs j:=by
    unfold OL;rw[getD_lt (by simp;omega),getD_lt ah,getElem_append_left ah]
   rw[e];exact hR' j ah
  obtain rfl:j=i:=ah
  have e:OL (vs++[w]) j=w:=by
   unfold OL;rw[getD_lt (by simp;omega),getElem_append_right ah];simp[hvl]
  have e2:rM L j=L[j]:=getD_lt hlt;rw[e,e2]
  have hbk:∀c,w=.sl c 0 L[j].length 3->n1<=c/\c<n2:=by
   intro c e;obtain⟨_,⟨e',_⟩|⟨c',k',e',hc,hk2,_⟩⟩:=q2
   ·rw[e']at e;cases e
   rw[e']at e;injection e with e;subst e;exact⟨q3 _ _ e' hk2,hc⟩
  refine⟨q2.mv ah λ c hc e=>hk' c hc (by have:=(hbk c e).1;omega),λ c e=>?_⟩;have:=hbk c e;omega
 obtain rfl:i=L.length:=ah;simp[adM,f11,f10,aik,f3]
 have hD:Dt (Zg L vs n n1 b) K (range L.length++[]):=by
  obtain⟨y,hy,h⟩:=hO;refine⟨y,hy,?_⟩;rw[append_nil,show (range L.length).map (Zg L vs n n1 b).av=vs by rw[<-hvl];exact VF]
  rcases h with⟨rfl,rfl⟩|h
  ·have h0:L.length=0:=by simpa using hvl.symm
   rw[h0];refine⟨0,_,_,_,rfl,rfl,λ i=>?_,λ _ e=>by cases e⟩;rw[cM];simp
  exact h
 have hok:=agd hl hvl hR
 have hS:Nd (Zg L vs n n1 b) K (range L.length) L.length:=⟨by simpa using hD,hR,ai,ah,λ i j hi hj hij=>by
  simp only[getElem_range,length_range,Zg]at hi hj ⊢;exact⟨ah,ah,hso i j hij hj⟩⟩
 refine aB.of (V2 hok hS (n:=n1)) λ w K2 n2 ⟨q1,q2,q3⟩=>?_;subst q2 q3;simp[aij,f3];obtain⟨y,hy,h⟩:=hS.hd;exact⟨b,vs,rfl,g3,⟨y,hy,h⟩,hvl,n,hS.J⟩
theorem amL.nz {n n':Nat}{L:List (List Val)}{v:AV}{K:Hp}(h:amL n L v K n'):fj K.get v (.ds (aQ L) L.length 1):=by
 obtain⟨b,vs,rfl,hb,⟨y,hy,ho⟩,hvl,n0,hR⟩:=h;have hO:aD K n' (.sl b 0 L.length 1) ((range L.length).map (OL vs)) L.length 1:=⟨ai,.inr ⟨b,y,rfl,hb,hy,ho⟩⟩;refine hO.nz ?_
 have hL:aQ L=(range L.length).map λ j=>aC (rM L j):=by
  apply ext_getElem
  ·simp
  intro i h1 h2;simp only[aQ,getElem_map,getElem_range,rM];rw[getD_lt (by simpa using h1)]
 have hm:∀j∈range L.length,j<vs.length:=λ j hj=>by rw[hvl];simpa using hj
 rw[hL];clear hO ho hy hL;generalize range L.length=T at hm
 induction T with
 |nil=>exact .nil
 |cons j r ih=>exact .cons _ _ _ _ ((hR j (hm j ai)).1.nz (bp.pure ai)) (ih λ k hk=>hm k (by simp[hk]))
theorem ajR (L:List (List Val))(hL:L.length<=100000)(hl:∀l∈L,l.length<=1048576)(hm:∀r∈L,iI r)(hs:dQ L):aj pG 58 [dB L] (dR L):=by
 have h6:=VX L hL hl (λ i j hij hj=>by
  have:=pairwise_iff_getElem.1 hs i j ah hj hij;unfold rM;rw[getD_lt hj,getD_lt (show i<L.length by omega),jD (hm _ (dy _)) (hm _ (dy _))];omega) .nil 0
 refine aj.ofR (by simp[dB]) ai ?_
 by_cases h0:L=[]
 ·subst h0;refine(h6.zs (R2:=λ v _ _=>v=.ds [] 0 0) λ v K k ⟨b,vs,hv,_⟩=>⟨λ _=>none,K,_,rz.refl K,?_,rfl⟩).mono λ v K k hv=>?_
  ·subst hv;exact aoQ _ _ _ _
  subst hv;exact fp
 refine h6.mono λ v K k hR=>?_;unfold dR;rw[ak h0];exact hR.nz
theorem TU {w:qf}(hw:w.gA)(ok:iV w):∀L∈w.rows,aj pG 58 [dB L] (dR L):=by
 intro L hL;obtain⟨i,hi,rfl⟩:=getElem_of_mem hL;have hT:=ok.t i hi (by rw[<-ok.l];exact hi);exact ajR w.rows[i] (by have:=hT.len;omega) (λ l hl=>(hw.r _ hL l hl).1) (HY hT.fits) (xG (HY hT.fits) hT.oV)
end Go.Abs
namespace Go.Abs
open List
open Go.Proofs
open Classical
set_option maxRecDepth 100000
theorem Xo (on:List (List Ex))(tabs:List (List (List Val)))(w it:List Ex)(j:Nat):(gJ on tabs w it j).rows.length<=4096:=by
 unfold gJ;refine xN (I:=λ s:sW=>s.rows.length<=4096) (Rw:=λ _ _=>True) on tabs j _ (λ s e h=>h) (λ s row h _=>?_) (λ _ _ _ _ _ _=>trivial) trivial _ ai;show (tz w it s row).rows.length<=4096;unfold tz
 split
 ·split
  ·exact h
  rename_i h2;simp only[length_append,length_singleton];omega
 exact h
def Lj (w:qf)(R N C:AV)(e:Int)(rows:List (List Val)):AV:=if e=0 then resV (aM.ds w.aY.tables) (bw.ds w.aY.indexes) R N C (.ds (aQ rows) rows.length 1) 0 0 else JA e
structure Ans (w:qf)(q:bG)(e:Int)(rows:List (List Val)):Prop where
 run:∃R N C,(R.one=true/\N.one=true/\C.one=true)/\aj pG 10 [mX.av w,(eY q).av] (Lj w R N C e rows)
 len:rows.length<=4096
 may:∀r∈rows,iI r/\r.length<=aU
 ok:e=0->(cu w.aY (eY q)).2=0/\iV w
 eq:∀L,iV w->fW w.aY q L->e=nN (zu w (mD w.aY q L) q.ar.length)/\rows=oV (zu w (mD w.aY q L) q.ar.length).rows
theorem Eo {w:qf}(hw:w.gA){q:bG}(hx:(eY q).sm) (ho:q.order=[]) (hd:q.kE=false) (hm:q.limited=false):∃e rows,Ans w q e rows:=by
 have hb:=asf hw.s hx ho
 by_cases h:iV w/\(cu w.aY (eY q)).2=0
 ·obtain⟨ok,h0⟩:=h;have b:=fW.of ho h0;generalize (cdQ w.aY q q.cond).1=L at b
  have hL:L.length<=aU/\∀e∈L,e.sz<=aU:=by
   have:=BU (ns:=q.ar.map Src.nm) (ts:=q.ar.map w.aY.tb) (err:=(DT w.aY q).2.2.2) (show q.cond.sz<=aU from hx.qc)
   rwa [show ew (q.ar.map Src.nm) (q.ar.map w.aY.tb) q.cond (DT w.aY q).2.2.2=(L,0)from b.cd]at this
  have Q:=b.ok ok hw.g hx hd hm hL;have hmy:=xZ (mD w.aY q L).on (nH w (mD w.aY q L).iM) (mD w.aY q L).cond (mD w.aY q L).items q.ar.length;refine⟨nN (zu w (mD w.aY q L) q.ar.length),oV (zu w (mD w.aY q L) q.ar.length).rows,?_,by rw[nI];exact Xo _ _ _ _ _,λ r hr=>?_,λ _=>⟨h0,ok⟩,λ L' _ b'=>?_⟩
  ·obtain⟨R,hR,hp,hf⟩:=ZB w hw _ hb ok h0 (TU hw ok) 67 rfl (nN (zu w (mD w.aY q L) q.ar.length)) (dz.ds (mD w.aY q L).names) (dA.ds (mD w.aY q L).kinds) ⟨rfl,rfl⟩ ⟨ai,ai⟩ 0 (aQ (oV (zu w (mD w.aY q L) q.ar.length).rows)) ai (zu w (mD w.aY q L) q.ar.length).rows.length (λ V RC hV=>by
    rw[b.eq]at hV ⊢;exact ajD hw Q hV)
   refine⟨R,dz.ds (mD w.aY q L).names,dA.ds (mD w.aY q L).kinds,⟨hR,rfl,rfl⟩,?_⟩;unfold Lj;rw[nI];exact hf
  ·obtain⟨h1,h2⟩:=hmy r ((mM _).mem_iff.1 hr);exact⟨h1,by rw[h2];exact Q.il⟩
  have:(L,(0:Int))=(L',0):=b.cd.symm.trans b'.cd;injection this with this _;subst this;exact⟨rfl,rfl⟩
 have h':¬iV w∨(cu w.aY (eY q)).2≠0:=by
  by_cases ok:iV w
  ·exact .inr λ h0=>h ⟨ok,h0⟩
  exact .inl ok
 have hz:=ZA w hw _ hb h'
 have he:(if iV w then (cu w.aY (eY q)).2 else 1)≠0:=by
  rcases h' with h' |h'
  ·rw[ak h'];omega
  split
  ·exact h'
  omega
 generalize (if iV w then (cu w.aY (eY q)).2 else 1)=e at hz he;refine⟨e,[],⟨nS,nS,nS,⟨rfl,rfl,rfl⟩,?_⟩,ai,ai,λ h0=>aw h0 he,λ L ok b=>aw ⟨ok,by rw[b.eq]⟩ h⟩;unfold Lj;rw[ak he];exact hz
theorem TN {w:qf}{q:bG}{p:Ex}(ho:q.order=[]){e0 e1 e2 e3:Int}{r0 r1 r2 r3:List (List Val)}(a0:Ans w (q.wh vJ) e0 r0) (a1:Ans w (q.wh p) e1 r1) (a2:Ans w (q.wh (lK 5 p)) e2 r2) (a3:Ans w (q.wh (lK 6 p)) e3 r3)
  (h1:e1=0)(h2:e2=0)(h3:e3=0):e0=4∨(e0=0/\r0=oV (r1++r2++r3)):=by
 have ok:=(a1.ok h1).2;obtain⟨p',_,b1,b2,b3,b0⟩:=Jr ho (a1.ok h1).1 (a2.ok h2).1 (a3.ok h3).1;obtain⟨f0,g0⟩:=a0.eq _ ok b0;obtain⟨f1,g1⟩:=a1.eq _ ok b1;obtain⟨f2,g2⟩:=a2.eq _ ok b2;obtain⟨f3,g3⟩:=a3.eq _ ok b3;have m0:=a0.may;have m1:=a1.may;have m2:=a2.may;have m3:=a3.may;have key:=JC (on:=(onQ w.aY q).1) (tabs:=nH w (q.ar.map w.aY.tb)) (it:=(DT w.aY q).1) (j:=q.ar.length) (apN p' (DT w.aY q).1) (f1.symm.trans h1) (f2.symm.trans h2) (f3.symm.trans h3)
 rcases key with key|⟨key,hp⟩
 ·exact .inl (f0.trans key)
 refine .inr ⟨f0.trans key,?_⟩;have hmS:∀r∈(gJ (onQ w.aY q).1 (nH w (q.ar.map w.aY.tb)) [] (DT w.aY q).1 q.ar.length).rows,iI r:=λ r hr=>(xZ _ _ _ _ _ r hr).1;have s0:=ajQ hmS;rw[show r0=oV (gJ (onQ w.aY q).1 (nH w (q.ar.map w.aY.tb)) [] (DT w.aY q).1 q.ar.length).rows from g0];refine C6 (λ r hr=>?_) (s0.1.trans (hp.trans ?_)) s0.2
 ·rcases mem_append.1 hr with hr|hr
  ·rcases mem_append.1 hr with hr|hr
   ·exact(m1 r hr).1
   exact(m2 r hr).1
  exact(m3 r hr).1
 rw[g1,g2,g3];exact(((mM _).append (mM _)).append (mM _)).symm
def mxF:List (List (List Val))->Int->Int
 |[],m=>m
 |L::r,m=>mxF r (if (L.length:Int)>m then (L.length:Int)else m)
def hvM (mo:Int):Nat->Int->Bool
 |0,_=>false
 |k+1,n=>if 30000<n*mo then true else hvM mo k (n*mo)
def hvQ (w:qf)(k:Nat):Bool:=if hvR w.rows 0=true then true else hvM (mxF w.rows 1) k 1
theorem afP (w:qf) (hw:w.gA) (q:bG) (hs:q.ar.length<=aU):aj pG 8 [mX.av w,.agg q.cells 15] (.bool (hvQ w q.ar.length)):=by
 refine gf c8 (by simp[bG.pure]) ai (by simp[A8]) λ F hF=>?_;have hl:=hw.l;unfold aU at hl hs;have ql:=q.bm;have q3:=λ h=>q.c3 h;unfold hvQ;generalize q.cells=qc at *;simp[A8,hF,bf.av,uQ]
 refine aF.of (λ q F K n ms=>∃(i a:Nat) (mo:Int),q=w.rows.length - i/\i<=w.rows.length/\a<=5000/\(0<=mo/\mo<=5000)/\F.get 2=some (.ptr 0 0)/\F.get 3=some (.ptr 1 0)/\F.get 5=some (zI (a:Int))/\F.get 6=some (zI mo)/\F.get 7=some (zI (i:Int))/\K.get 0=aN 3 [aM.ds w.aY.tables,bw.ds w.aY.indexes,iO.ds w.rows]/\K.get 1=aN 15 qc/\hvR w.rows 0=hvR (w.rows.drop i) a/\mxF w.rows 1=mxF (w.rows.drop i) mo/\ms=[]) w.rows.length
  ⟨0,0,1,ah,ah,ah,ah,ai,ai,ai,ai,ai,ai,ai,ai,ai,rfl⟩ ?_
 clear hF F;rintro t F K n ms ⟨i,a,mo,rfl,hi,ha,hmo,f2,f3,f5,f6,f7,k0,k1,hv,hx0,rfl⟩
 by_cases h:i<w.rows.length
 ·have hx:=iO.ix (ik:=.i64) h;rw[Y2]at hx;have hL:=hw.t _ (dy h);rw[gu h,Yu]at hv;rw[gu h,mxF]at hx0;generalize w.rows[i]=L at *;unfold aU at hL;have w1:IntKind.i64.wrap ((a:Int)+(L.length:Int))=((a+L.length:Nat):Int):=by simp[IntKind.wrap,IntKind.signed,IntKind.bits];omega
  have hlen:bg (dB L)=.val (zI (L.length:Int)):=rfl;obtain⟨mx,hmx,hmax⟩:∃mx,mx=(if (L.length:Int)>mo then (L.length:Int)else mo)/\JQ [zI mo,zI (L.length:Int)]=some (zI mx):=⟨_,rfl,by simp[JQ,UE]⟩;rw[<-hmx]at hx0;have wi:=aE i ah
  by_cases h5:5000<a+L.length
  ·rw[ay h5]at hv;simp[agC,f2,f7,k0,bf.aT,h,f5,hx,hlen,w1,f6,yZ,hmax,show (5000:Int)<(a:Int)+(L.length:Int) by omega];exact .bool (by rw[hv];rfl)
  rw[ak h5]at hv;simp[agC,f2,f7,k0,bf.aT,h,f5,hx,hlen,w1,f6,yZ,hmax,show ¬(5000:Int)<(a:Int)+(L.length:Int) by omega,wi];exact⟨_,ah,i+1,rfl,ah,a+L.length,ah,mx,by rw[hmx];split<;>omega,f3,ah,rfl,ah,k1,hv,hx0⟩
 obtain rfl:i=w.rows.length:=ah;have hv':hvR w.rows 0=false:=by rw[hv];simp[hvR]
 have hx1:mxF w.rows 1=mo:=by rw[hx0];simp[mxF]
 rw[hv',hx1];simp[agC,f2,f7,k0,bf.aT,ah5,ah4]
 refine aF.of (λ t F K n ms=>∃(j:Nat) (m:Int),t=q.ar.length - j/\j<=q.ar.length/\(0<=m/\m<=30000)/\F.get 3=some (.ptr 1 0)/\F.get 6=some (zI mo)/\F.get 8=some (zI m)/\F.get 9=some (zI (j:Int))/\K.get 1=aN 15 qc/\hvM mo q.ar.length 1=hvM mo (q.ar.length - j) m/\ms=[]) q.ar.length
  ⟨0,1,ah,ah,ah,by simp[f3],by simp[f6],ai,ai,k1,ai,rfl⟩ ?_
 clear f2 f3 f5 f6 f7 k0 k1 hx0 hv F K n;rintro t F K n ms ⟨j,m,rfl,hj,hm,f3,f6,f8,f9,k1,hv,rfl⟩
 have hc:cN (.ptr 1 3) K=.val (ju.ds q.ar):=by
  simp[k1,ql,q3]
 by_cases h:j<q.ar.length
 ·have hmm:0<=m*mo/\m*mo<=30000*5000:=⟨Int.mul_nonneg hm.1 hmo.1,Int.mul_le_mul hm.2 hmo.2 hmo.1 ah⟩
  have w1:IntKind.i64.wrap (m*mo)=m*mo:=by
   generalize m*mo=z at *;simp[IntKind.wrap,IntKind.signed,IntKind.bits];omega
  have wj:=aE j ah;rw[show q.ar.length - j=(q.ar.length - (j+1))+1 by omega,hvM]at hv
  by_cases h5:30000<m*mo
  ·rw[ay h5]at hv;simp[agB,f3,f9,hc,bf.aT,h,f8,f6,w1,h5];exact .bool (by rw[hv])
  rw[ak h5]at hv;simp[agB,f3,f9,hc,bf.aT,h,f8,f6,w1,h5,wj];exact⟨_,ah,j+1,rfl,ah,m*mo,ah,rfl,ah,k1,hv⟩
 obtain rfl:j=q.ar.length:=ah;have hv':hvM mo q.ar.length 1=false:=by rw[hv];simp[hvM]
 simp[agB,f3,f9,hc,bf.aT,ah3];exact .bool (by rw[hv'])
theorem uy (op:Int)(e:Ex):(lK op e).cells=[zI op,zI 0,zI 0,.str [],.str [],.str [],zI 0,.ds e.cells 1 8]:=by
 simp[lK,Ex.cells,Ex.aK]
theorem YK {H:Hp}{op:Int}{ec:List AV}(hl:ec.length=8)(hp:aS ec)(h:H.get 2=aN 8 ec):fj H.get (.agg [zI op,zI 0,zI 0,.str [],.str [],.str [],zI 0,.sl 2 0 1 8] 8) (.agg [zI op,zI 0,zI 0,.str [],.str [],.str [],zI 0,.ds ec 1 8] 8):=by
 have p:∀ {v:AV} {l l':List AV},Pure v->bp H.get l l'->bp H.get (v::l) (v::l'):=λ h1 h2=>.cons _ _ _ _ (.pure _ h1) h2;refine .agg _ _ _ (p ai (p ai (p ai (p ai (p ai (p ai (p ai (.cons _ _ _ _ ?_ .nil))))))));exact(show aD H 3 (.sl 2 0 1 8) ec 1 8 from⟨hl,.inr ⟨2,_,rfl,ah,h,OwnB.list hl.symm⟩⟩).nz (bp.pure hp) ah
theorem apD (e:Ex):aj pG 14 [.agg e.cells 8] (.agg (lK 5 e).cells 8):=by
 have hl:=Ex.bm e;have hp:=Ex.rC e;have ho:=Ex.bo e;rw[uy];generalize e.cells=ec at *;refine gf c14 (by simp[hp]) (by simp[hp]) (by simp[A14]) λ F hF=>?_;simp[A14,hF,hl];exact YK hl hp ai
theorem akC (e:Ex):aj pG 15 [.agg e.cells 8] (.agg (lK 6 e).cells 8):=by
 have hl:=Ex.bm e;have hp:=Ex.rC e;have ho:=Ex.bo e;rw[uy];generalize e.cells=ec at *;refine gf c15 (by simp[hp]) (by simp[hp]) (by simp[A15]) λ F hF=>?_;simp[A15,hF,hl];exact YK hl hp ai
end Go.Abs
namespace Go.Abs
open List
open Go.Proofs
set_option maxRecDepth 100000
theorem agA (l m:List Val)(hl:l.length<=1048576)(hm:m.length<=1048576)(al:∀v∈l,v.may=true)(am:∀v∈m,v.may=true):aj pG 36 [aC l,aC m,.aV (.slice none 0 0)] (zI (rN l m)):=by
 refine pv c36 λ F hF=>?_;simp[A36];refine aF.of (λ k F K n ms=>k=0/\F.get 0=some (aC l)/\F.get 1=some (aC m)/\F.get 2=some (.aV (.slice none 0 0))/\F.get 7=some (zI 0)/\K=.nil/\ms=[]) 0 (by simp[hF]) ?_;rintro k F K n ms ⟨rfl,f0,f1,f2,f7,rfl,rfl⟩;simp[ajm,f2,f7,aiK,f0,f1];refine aB.pure (agy l m hl hm al am) ?_;simp;exact fp
end Go.Abs
