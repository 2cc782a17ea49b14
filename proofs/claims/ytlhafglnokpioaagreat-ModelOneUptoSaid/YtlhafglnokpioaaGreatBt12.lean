/- A part. -/
import Derived.Test.YtlhafglnokpioaaGreatBt11
noncomputable section
namespace Go.Abs
open List
open Go.Proofs
open Classical
set_option maxRecDepth 100000
def cY (table:List Nat)(rows:List (List Ex)):bN:={bN.z 5 with table:=table,rows:=rows}
def gW (table:List Nat):bN:={bN.z 6 with table:=table}
def df (table:List Nat):cM:={nI with star:=true,ay:=[⟨table,[],nA⟩]}
def fW (table:List Nat):bN:={bN.z 8 with q:=df table}
theorem rP:nA.bare 0:=by simp[nA,Ex.bare]
theorem Rx (x:bN)(h1:x.cond=nA)(h2:x.q.cond=nA):yO x x=true:=by
 have:=rP;simp[yO,LI,h1,h2,this]
theorem abz {e:Int}(h:e≠0)(a:Int)(b:Bool):keep e a b=e:=by simp[keep,h]
theorem Lo (t:bo):∀(rs:List (List Ex)){e:Int},e≠0->(nT t rs e).2=e
 |[],e,_=>rfl
 |r::rs,e,h=>by
  unfold nT;rw[abz h,ao h]
def rowB (t:bo)(r:List Ex):List Ex:=(gk t.cols r r.length 0).1
def Vg (t:bo)(r:List Ex):Prop:=r.length=t.cols.length/\(gk t.cols r r.length 0).2=0
theorem Lm (t:bo):∀(rs:List (List Ex)),(∀r∈rs,Vg t r)->nT t rs 0=(rs.map (rowB t),0)
 |[],_=>rfl
 |r::rs,h=>by
  obtain⟨h1,h2⟩:=h r (by simp);have ih:=Lm t rs λ x hx=>h x (by simp[hx]);unfold nT;simp only[h1,decide_true,Bool.not_true,keep];rw[ah (by simp)];simp only[Bool.false_eq_true,false_and,if_false];rw[<-h1,h2,ih];simp[rowB]
theorem Ln (t:bo):∀(rs:List (List Ex)),(nT t rs 0).2=0->∀r∈rs,Vg t r
 |[],_,r,hr=>by simp at hr
 |x :: rs,h,r,hr=>by
  unfold nT at h
  by_cases h1:x.length=t.cols.length
  ·simp only[h1,decide_true,Bool.not_true,keep]at h;rw[ah (by simp)]at h;simp only[Bool.false_eq_true,false_and,if_false]at h;have h2:(gk t.cols x t.cols.length 0).2=0:=Classical.byContradiction λ hn=>by rw[Lo t rs hn]at h;exact hn h
   rw[h2]at h
   rcases mem_cons.1 hr with rfl|hr
   ·exact⟨h1,by rw[h1];exact h2⟩
   exact Ln t rs h r hr
  simp[h1,keep]at h
structure qj (s:bB)(table:List Nat)(rows:List (List Ex)):Prop where
 so:eM s
 n:bA table
 l:rows≠[]
 r:∀r∈rows,rowOk r=true
 t:(s.named table).2=true
 i:∀r∈rows,Vg (s.named table).1 r
theorem Ll (table:List Nat)(rows:List (List Ex)):(cY table rows).may=(decide (bA table)&&decide (0<rows.length)&&rows.all rowOk):=by
 have hc:(cY table rows).cut=cY table rows:=rfl;have hr:=Rx (cY table rows) rfl rfl;unfold bN.may;rw[hc,hr,Bool.and_true];rfl
theorem EK (s:bB)(table:List Nat)(rows:List (List Ex)):oq s (cY table rows)=jl s (cY table rows) 0:=rfl
theorem UY {s:bB}{table:List Nat}{rows:List (List Ex)}(h:qj s table rows):cy s (cY table rows)=({kind:=5,table:=(s.named table).1,rows:=rows.map (rowB (s.named table).1)},0):=by
 have hm:(cY table rows).may=true:=by
  rw[Ll];have:0<rows.length:=length_pos_iff.2 h.l;simp[h.n,this];exact h.r
 unfold cy;rw[ao ⟨h.so,hm⟩,EK];unfold jl;have e1:(cY table rows).table=table:=rfl;have e2:(cY table rows).rows=rows:=rfl;have e3:keep 0 200 (!(s.named table).2)=0:=by simp[h.t,keep]
 rw[e1,e2,e3,Lm _ _ h.i];rfl
theorem ag9 {s:bB}{table:List Nat}{rows:List (List Ex)}(h:(cy s (cY table rows)).2=0):qj s table rows:=by
 unfold cy at h
 by_cases hc:eM s/\(cY table rows).may=true
 ·rw[ao hc,EK]at h;have hm:=hc.2;rw[Ll]at hm;simp only[dN,decide_eq_true_eq,all_eq_true]at hm;have e1:(cY table rows).table=table:=rfl;have e2:(cY table rows).rows=rows:=rfl
  have h2:(jl s (cY table rows) 0).2=0:=by
   unfold AY at h
   by_cases hz:(jl s (cY table rows) 0).2=0
   ·exact hz
   rw[ah hz]at h;exact h
  unfold jl at h2;rw[e1,e2]at h2;simp only at h2
  have ht:(s.named table).2=true:=Classical.byContradiction λ hn=>by
   have hn':(s.named table).2=false:=by simpa using hn
   have hk:keep 0 200 (!(s.named table).2)=200:=by simp[hn',keep]
   rw[hk,Lo _ _ (by omega)]at h2;omega
  have hk:keep 0 200 (!(s.named table).2)=0:=by simp[ht,keep]
  rw[hk]at h2;exact⟨hc.1,hm.1.1,λ e=>by have:=hm.1.2;rw[e]at this;simp at this,hm.2,ht,Ln _ _ h2⟩
 rw[ah hc]at h;simp at h
theorem qj.one {s:bB}{table:List Nat}{rows:List (List Ex)}(h:qj s table rows){r:List Ex}(hr:r∈rows):qj s table [r]:=
 ⟨h.so,h.n,by simp,λ x hx=>by simp at hx;subst hx;exact h.r _ hr,h.t,λ x hx=>by simp at hx;subst hx;exact h.i _ hr⟩
theorem qj.mem {s:bB}{table:List Nat}{rows:List (List Ex)}(h:qj s table rows):(s.named table).1∈s.tables/\(s.named table).1.name=table:=by
 have ht:=h.t;unfold bB.named je at ht ⊢
 split
 ·rename_i x hx;exact⟨mem_of_find?_eq_some hx,by have:=find?_some hx;simpa using this⟩
 rename_i hx;rw[hx]at ht;simp at ht
theorem eM.at {s:bB}(h:eM s)(hg:s.eA){t:bo}(ht:t∈s.tables):∃k,∃hk:k<s.tables.length,s.tables[k]=t/\Qm s t.id=(k:Int):=by
 have ha:=(vA s.tables hg.t).1 h.tabs;obtain⟨i,hi,rfl⟩:=getElem_of_mem ht;refine⟨i,hi,rfl,sF hi (by simp) λ j hj=>?_⟩;have:=((ha i) hi).2.2.2 j hj;simp;omega
theorem UZ {s:bB}{table:List Nat}(h1:eM s)(h2:bA table)(h3:(s.named table).2=true):cy s (gW table)=({kind:=6,table:=(s.named table).1},0):=by
 have hb:=rP
 have hm:(gW table).may=true:=by
  unfold bN.may;rw[show (gW table).cut=gW table from rfl,Rx (gW table) rfl rfl,Bool.and_true];show (decide (bA table)&&nA.maybe)=true;simp[h2,Ex.maybe,hb]
 unfold cy;rw[ao ⟨h1,hm⟩];show AY (rI s (gW table) 0)=_;unfold rI;have e1:(gW table).table=table:=rfl;have e3:keep 0 200 (!(s.named table).2)=0:=by simp[h3,keep]
 have e4:(gW table).cond=nA:=rfl;rw[e1,e3,ah (by simp),e4];unfold fG;rw[ao hb];rfl
def Rn (t:bo):mZ:={kind:=8,wM:=[t],on:=[[]],items:=iK (aB [t]).length,names:=namesT [t],kinds:=aB [t]}
theorem UX {s:bB}{table:List Nat}(h1:eM s)(h2:bA table)(h3:(s.named table).2=true)(h4:(aB [(s.named table).1]).length<=16):cy s (fW table)=(Rn (s.named table).1,0):=by
 have hb:=rP
 have hm:(fW table).may=true:=by
  unfold bN.may;rw[show (fW table).cut=fW table from rfl,Rx (fW table) rfl rfl,Bool.and_true];show (df table).may=true;simp[cM.may,df,nI,vG,Src.ok,Ex.maybe,hb,h2]
 unfold cy;rw[ao ⟨h1,hm⟩];show AY (jJ s (df table) 8 0)=_
 have hs:mi s (df table).ay (df table).ay.length 0=0:=by
  simp[df,nI,mi,tK,h3,keep]
 have ho:qA ((df table).ay.map Src.nm) ((df table).ay.map s.tb) (df table).ay (df table).ay.length 0=([[]],0):=by
  simp[df,nI,qA,tK,fG,hb]
 have ht:(df table).ay.map s.tb=[(s.named table).1]:=rfl;unfold jJ;rw[hs,ah (by simp),ho,ht]
 have hi:bX ((df table).ay.map Src.nm) [(s.named table).1] (df table) 0=(iK (aB [(s.named table).1]).length,namesT [(s.named table).1],aB [(s.named table).1],0):=by
  have:¬(16:Int)<((aB [(s.named table).1]).length:Int):=by omega
  simp[bX,df,nI,zh,keep,this]
 simp only[hi]
 have hc:fG ((df table).ay.map Src.nm) [(s.named table).1] (df table).cond 0=([],0):=by
  show fG _ _ nA 0=_;unfold fG;rw[ao hb]
 simp only[hc];rfl
mutual
def Ex.eA:Ex->Prop
 |.mk _ v _ _ _ args=>v.eA/\Ex.qp args
def Ex.qp:List Ex->Prop
 |[]=>True
 |e::r=>e.eA/\Ex.qp r
end
theorem dU:iw.eA:=⟨by simp[iw],by simp[iw],by simp[iw]⟩
theorem Val.akV:Val.eA ⟨0,0,[]⟩:=⟨by simp,by simp,by simp⟩
theorem oO (b:Bool):(fA b).eA:=⟨by cases b<;>simp[fA],by cases b<;>simp[fA],by simp[fA]⟩
theorem vj (x:Int) : -9223372036854775808<=yC x/\yC x<9223372036854775808:=by
 unfold yC;simp only[IntKind.wrap,IntKind.signed,IntKind.bits,Bool.true_and,decide_eq_true_eq,show (2:Int) ^ 64=18446744073709551616 from rfl,show (2:Int) ^ (64 - 1)=9223372036854775808 from rfl];constructor<;>split<;>omega
theorem abG {x:Int}(h : -9223372036854775808<=x/\x<9223372036854775808):Val.eA ⟨1,x,[]⟩:=⟨h.1,h.2,by simp⟩
theorem nG (a b:Val)(r:Int×Bool)(h : -9223372036854775808<=r.1/\r.1<9223372036854775808):(jR a b r).1.eA:=by
 unfold jR
 split
 ·exact dU
 split
 ·exact abG h
 exact dU
theorem LH (a b:Val)(r:Int×Bool)(h : -9223372036854775808<=r.1/\r.1<9223372036854775808):(Fv a b r).1.eA:=by
 unfold Fv
 split
 ·exact dU
 exact nG a b r h
theorem lV (a b:Val)(r:Bool):(jT a b r).1.eA:=by
 unfold jT
 split
 ·exact dU
 split
 ·exact dU
 split
 ·exact dU
 exact oO r
theorem FO (c:Bool)(a b:Val):(ue c a b).1.eA:=by
 unfold ue
 split
 ·exact dU
 split
 ·exact oO c
 split
 ·exact dU
 exact oO _
theorem QX {x y:Int}(h : -9223372036854775808<=x/\x<9223372036854775808) : -9223372036854775808<=x.tmod y/\x.tmod y<9223372036854775808:=by
 cases x with
 |ofNat m =>
  cases y with
  |ofNat n =>
   have e:(Int.ofNat m).tmod (Int.ofNat n)=Int.ofNat (m % n):=rfl;have:=Nat.mod_le m n;rw[e];simp only[Int.ofNat_eq_natCast]at h ⊢;omega
  |negSucc n =>
   have e:(Int.ofNat m).tmod (Int.negSucc n)=Int.ofNat (m % (n+1)):=rfl;have:=Nat.mod_le m (n+1);rw[e];simp only[Int.ofNat_eq_natCast]at h ⊢;omega
 |negSucc m =>
  cases y with
  |ofNat n =>
   have e:(Int.negSucc m).tmod (Int.ofNat n) = -Int.ofNat ((m+1) % n):=rfl;have:=Nat.mod_le (m+1) n;rw[e];simp only[Int.ofNat_eq_natCast,Int.negSucc_eq]at h ⊢;omega
  |negSucc n =>
   have e:(Int.negSucc m).tmod (Int.negSucc n) = -Int.ofNat ((m+1) % (n+1)):=rfl;have:=Nat.mod_le (m+1) (n+1);rw[e];simp only[Int.ofNat_eq_natCast,Int.negSucc_eq]at h ⊢;omega
theorem Ti {a b:Val}(ha:a.eA) (hb:b.eA):(EH a b).1.eA:=by
 unfold EH
 split
 ·exact dU
 split
 ·exact⟨by simp,by simp,λ c hc=>by
   simp only[mem_append]at hc;exact hc.elim (ha.b c) (hb.b c)⟩
 exact dU
theorem SS (x y:Int) : -9223372036854775808<=(Es x y).1/\(Es x y).1<9223372036854775808:=by
 unfold Es
 by_cases h:x=0∨y=0
 ·rw[ao h];constructor<;>decide
 rw[ah h];exact vj _
theorem Ux (x y:Int) : -9223372036854775808<=(Fz x y).1/\(Fz x y).1<9223372036854775808:=by
 unfold Fz
 by_cases h:x=nQ/\y = -1
 ·rw[ao h];constructor<;>decide
 rw[ah h];exact vj _
theorem SU {x:Int}(y:Int)(hx : -9223372036854775808<=x/\x<9223372036854775808) : -9223372036854775808<=(Ew x y).1/\(Ew x y).1<9223372036854775808:=by
 unfold Ew
 by_cases h:y = -1
 ·rw[ao h];constructor<;>decide
 rw[ah h];exact QX hx
theorem ait (op:Int){a b:Val}(ha:a.eA)(hb:b.eA):(biS op a b).1.eA:=by
 unfold biS
 by_cases h8:op=8
 ·rw[ao h8];exact nG a b (Qs a.num b.num) (vj _)
 rw[ah h8]
 by_cases h9:op=9
 ·rw[ao h9];exact nG a b (OP a.num b.num) (vj _)
 rw[ah h9]
 by_cases h10:op=10
 ·rw[ao h10];exact nG a b _ (SS _ _)
 rw[ah h10]
 by_cases h11:op=11
 ·rw[ao h11];exact LH a b _ (Ux _ _)
 rw[ah h11]
 by_cases h12:op=12
 ·rw[ao h12];exact LH a b _ (SU _ ⟨ha.lo,ha.hi⟩)
 rw[ah h12]
 by_cases h13:op=13
 ·rw[ao h13];exact Ti ha hb
 rw[ah h13]
 by_cases pq:op=14
 ·rw[ao pq];exact lV a b _
 rw[ah pq]
 by_cases h15:op=15
 ·rw[ao h15];exact lV a b _
 rw[ah h15]
 by_cases lR:op=16
 ·rw[ao lR];exact lV a b _
 rw[ah lR]
 by_cases h17:op=17
 ·rw[ao h17];exact lV a b _
 rw[ah h17]
 by_cases h18:op=18
 ·rw[ao h18];exact lV a b _
 rw[ah h18]
 by_cases h19:op=19
 ·rw[ao h19];exact lV a b _
 rw[ah h19]
 by_cases h20:op=20
 ·rw[ao h20];exact FO false a b
 rw[ah h20];exact FO true a b
theorem afO (op:Int)(a:Val):(unS op a).1.eA:=by
 unfold unS
 split
 ·exact nG Pq a (Hk a.num) (vj _)
 split
 ·unfold abe
  split
  ·exact dU
  exact oO _
 split
 ·exact oO _
 exact oO _
theorem aaV (op:Int){a b:Val}(ha:a.eA)(hb:b.eA):(opW op a b).1.eA:=by
 unfold opW
 split
 ·exact afO op a
 exact ait op ha hb
theorem wL {l:List Val}(h:∀v∈l,v.eA)(i:Nat):(l.getD i iw).eA:=by
 by_cases hi:i<l.length
 ·rw[getD_eq_getElem?_getD,cE hi];exact h _ (b6 hi)
 rw[getD_eq_getElem?_getD,getElem?_eq_none (by omega)];exact dU
mutual
theorem Ex.Ue {row:List Val}(hr:∀v∈row,v.eA):∀(e:Ex),e.eA->(e.ev row).1.eA
 |.mk op v t m dT args,h=>by
  simp only[Ex.eA]at h;unfold Ex.ev
  split
  ·exact h.1
  split
  ·exact wL hr _
  have:=Ex.LD hr args h.2
  split
  ·exact dU
  rename_i l hl;exact aaV op (wL (this l hl) 0) (wL (this l hl) 1)
theorem Ex.LD {row:List Val}(hr:∀v∈row,v.eA):∀(l:List Ex),Ex.qp l->∀r,Ex.Z2 row l=.inr r->∀v∈r,v.eA
 |[],_,r,he=>by
  unfold Ex.Z2 at he;injection he with he;subst he;simp
 |e :: l,h,r,he=>by
  simp only[Ex.qp]at h;have h1:=Ex.Ue hr e h.1;have h2:=Ex.LD hr l h.2;unfold Ex.Z2 at he
  split at he
  ·cases he
  split at he
  ·cases he
  rename_i q hq;injection he with he;subst he;intro v hv
  rcases mem_cons.1 hv with rfl|hv
  ·exact h1
  exact h2 q hq v hv
end
theorem P4 {row:List Val}(hr:∀v∈row,v.eA){e:Ex}(h:e.eA):(qd row e).1.eA:=by
 unfold qd
 split
 ·split
  ·exact Ex.Ue hr e h
  exact dU
 exact dU
mutual
theorem Ex.U0 (ns:List (List Nat)) (ts:List bo):∀(e:Ex) (err:Int),e.eA->(e.bd ns ts err).1.eA
 |.mk op v t m dT args,err,h=>by
  have h':=h;simp only[Ex.eA]at h;unfold Ex.bd
  split
  ·split
   ·simp only[Ex.eA,Ex.qp,and_true];exact Val.akV
   exact h'
  split
  ·exact h'
  simp only[Ex.eA];exact⟨Val.akV,Ex.LU ns ts args err h.2⟩
theorem Ex.LU (ns:List (List Nat))(ts:List bo):∀(l:List Ex)(err:Int),Ex.qp l->Ex.qp (Ex.lY ns ts l err).1
 |[],_,_=>by simp[Ex.lY,Ex.qp]
 |e::r,err,h=>by
  simp only[Ex.qp]at h;simp only[Ex.lY,Ex.qp];exact⟨Ex.U0 ns ts e err h.1,Ex.LU ns ts r _ h.2⟩
end
structure ma (rows:List (List Ex)):Prop where
 l:rows.length<=aM
 r:∀r∈rows,r.length<=aM/\∀y∈r,y.sz<=aM
 g:∀r∈rows,∀y∈r,y.eA
theorem D4 (cols:List ny)(r:List Ex)(e:Int)(h:∀y∈r,y.sz<=aM/\y.eA):∀i,i<=r.length->∀y∈(gk cols r i e).1,y.sz<=aM/\y.eA
 |0,_=>by simp[gk]
 |i + 1,hi=>by
  intro y hy;rw[gk]at hy
  rcases mem_append.1 hy with hy|hy
  ·exact D4 cols r e h i (by omega) y hy
  rw[gp]at hy;have hm:=h _ (b6 (by omega:i<r.length));rw[hy,Ly (by omega)];exact⟨uo (Ex.adF _ _ _ _) hm.1,Ex.U0 _ _ _ _ hm.2⟩
theorem D5 (t:bo)(r:List Ex):(rowB t r).length=r.length:=vR _ _ _ _
theorem ma.bound {rows:List (List Ex)}(h:ma rows)(t:bo):ma (rows.map (rowB t)):=by
 have key:∀r∈rows,∀y∈rowB t r,y.sz<=aM/\y.eA:=λ r hr=>D4 t.cols r 0 (λ y hy=>⟨(h.r r hr).2 y hy,h.g r hr y hy⟩) r.length (aP _);refine⟨by simpa using h.l,λ r hr=>?_,λ r hr y hy=>?_⟩
 ·obtain⟨q,hq,rfl⟩:=mem_map.1 hr;exact⟨by rw[D5];exact(h.r q hq).1,λ y hy=>(key q hq y hy).1⟩
 obtain⟨q,hq,rfl⟩:=mem_map.1 hr;exact(key q hq y hy).2
theorem ma.fresh {rows:List (List Ex)}(h:ma rows):∀r∈ba rows,r.length<=aM/\∀v∈r,v.eA:=by
 intro r hr;obtain⟨q,hq,rfl⟩:=mem_map.1 hr;refine⟨by simpa[gf]using(h.r q hq).1,λ v hv=>?_⟩;obtain⟨y,hy,rfl⟩:=mem_map.1 hv;exact P4 (by simp) (h.g q hq y hy)
theorem HT {n r len:Nat}{T I N C W:AV}{b:mZ}{c:Int}(hT:Pure T)(hI:Pure I)(hN:Pure N)(hC:Pure C)(hW:Pure W)(hr:r<n):cT n (dC T I (.sl r 0 len 1) b N C W c):=by
 refine cT.of λ x hx=>?_;simp only[dC,mem_cons,mem_append,not_mem_nil,or_false]at hx
 rcases hx with rfl|rfl|rfl|hx|rfl|rfl|rfl|rfl
 ·exact hT.jI
 ·exact hI.jI
 ·simpa using hr
 ·exact(b.pure.jI).mem x hx
 ·exact hN.jI
 ·exact hC.jI
 ·exact hW.jI
 simp
structure TabAt (w:jP)(t:bo)(k:Nat)(L:List (List Val)):Prop where
 k1:k<w.aO.tables.length
 k2:k<w.rows.length
 e:w.aO.tables[k]=t
 r:w.rows[k]=L
 a:Qm w.aO t.id=(k:Int)
theorem TabAt.mem {w:jP}{t:bo}{k:Nat}{L:List (List Val)}(h:TabAt w t k L):t∈w.aO.tables:=by rw[<-h.e];exact b6 h.k1
theorem TabAt.ok {w:jP}{t:bo}{k:Nat}{L:List (List Val)}(h:TabAt w t k L)(ok:eK w):nj w.aO t L:=by obtain⟨k1,k2,rfl,rfl,_⟩:=h;exact ok.t k k2 k1
theorem Kw {w:jP}(hw:w.dz)(ok:eK w){t:bo}(ht:t∈w.aO.tables){L:List (List Val)}(hl:L.length<=aM)(hv:∀r∈L,r.length<=aM/\∀v∈r,v.eA)(hf:∀r∈L,r.length=t.cols.length):iN w.aO t L:=
 ⟨hw.s.i,hw.s.ic,hl,hv,λ r hr h x hx=>(ok.s.rows hw.g ht L).ja r hr h x hx,(ok.s.rows hw.g ht L).lR,hf⟩
theorem P0 (l:List (List Ex)):(ba l).length=l.length:=by simp[ba]
theorem akA {w:jP}(hw:w.dz)(ok:eK w){t:bo}{k:Nat}{L0:List (List Val)}(A:TabAt w t k L0){l:List (List Ex)}(hl:l.length<=100)(X:ma l)(h0:l≠[])(hlen:∀r∈l,r.length=t.cols.length):
  Vb 64 (dC (aA.ds w.aO.tables) (aQ.ds w.aO.indexes) nS {kind:=5,table:=t,rows:=l} nS nS nS 0) (w.rows.map bH) (qD w.aO t L0 l)
   (λ r=>dC (aA.ds w.aO.tables) (aQ.ds w.aO.indexes) (.sl r 0 w.rows.length 1) {kind:=5,table:=t,rows:=l} nS nS nS (l.length:Int)) (λ _=>(w.rows.set k (jZ (L0++ba l))).map bH):=by
 intro H n p r hp hr hpr ht;have hset:∀v,(dC (aA.ds w.aO.tables) (aQ.ds w.aO.indexes) nS {kind:=5,table:=t,rows:=l} nS nS nS 0).set 2 v=dC (aA.ds w.aO.tables) (aQ.ds w.aO.indexes) v {kind:=5,table:=t,rows:=l} nS nS nS 0:=λ v=>rfl;rw[hset]at hp;have hpn:=ht.lt hp;have hrn:=ht.lt hr;have hT:=A.ok ok;have hm:=A.mem;have hv0:∀r∈L0,r.length<=aM/\∀v∈r,v.eA:=by rw[<-A.r];exact hw.r _ (b6 A.k2)
 have hf0:∀r∈L0,r.length=t.cols.length:=λ r hr=>(rF (E2 hT.fits r hr)).2.1;have hvf:=X.fresh
 have hff:∀r∈ba l,r.length=t.cols.length:=λ r hr=>by
  obtain⟨q,hq,rfl⟩:=mem_map.1 hr;simpa[gf]using hlen q hq
 have hfl:=P0 l;have hL0:=hT.len;have hRp:iN w.aO t (L0++ba l):=Kw hw ok hm (by unfold aM;rw[length_append,hfl];omega) (λ r hr=>(mem_append.1 hr).elim (hv0 r) (hvf r)) (λ r hr=>(mem_append.1 hr).elim (hf0 r) (hff r));have hRf:iN w.aO t (ba l):=Kw hw ok hm (by unfold aM;omega) hvf hff;have hRk:(w.rows.map bH)[k]'(by simpa using A.k2)=bH L0:=by rw[List.getElem_map,A.r]
 have hlm:(w.rows.map bH).length=w.rows.length:=by simp
 refine(Tu (s:=w.aO) (t:=t) (L0:=L0) (l:=l) (by unfold aM;omega) (λ r hr=>X.r r hr) h0 (λ _=>hRp) (λ _=>hRf) hw.s.t (by unfold aM;omega) (λ _ h=>jA h) A.a (w.rows.map bH) (aJ.nO λ v hv=>by obtain⟨L,_,rfl⟩:=mem_map.1 hv;simp) (by simpa using A.k2) hRk H n p r _
  ⟨rfl,rfl,rfl,rfl,rfl,rfl,rfl,rfl⟩ rfl hp hr hpn hrn hpr (HT (by simp) (by simp) (by simp) (by simp) (by simp) hrn) ht).mono λ u K k' ⟨q1,q2,q3,q4⟩=>⟨q1,λ e0=>?_,q3,q4⟩
 obtain⟨a1,a2⟩:=q2 e0;rw[hlm]at a1;refine⟨⟨_,a1,OwnB.list rfl⟩,⟨_,a2,?_⟩⟩;rw[List.map_set];exact OwnB.list (by simp)
theorem afS (h:Hf)(L:List (List Val)):FJ h (bH L) (aW L):=by
 by_cases h0:L=[]
 ·subst h0;intro φ D w x _ hx;have e:bH []=.ds [] 0 0:=by simp[bH]
  rw[e]at hx;show VR _ _ (.ds [] 0 1) x
  cases hx with
  |ds cs len sz cap cb co cells l a b c d e=>exact .nZ _ _ _
  |nZ sz cap ad=>exact .nZ _ _ _
 have e:bH L=aW L:=by simp[bH,aW,h0]
 rw[e];exact FJ.refl _ _
theorem J5.set {h:Hf}{a a':AV}(f:FJ h a a'):∀ {l l':List AV}(k:Nat),J5 h l l'->J5 h (l.set k a) (l'.set k a')
 |_,_,_,.nil=>.nil
 |_,_,0,.cons _ _ _ _ _ r=>.cons _ _ _ _ f r
 |_,_,k+1,.cons _ _ _ _ g r=>.cons _ _ _ _ g (J5.set f k r)
theorem Fb (L:List (List (List Val))):dM.l L=L.map aW:=by
 induction L with
 |nil=>rfl
 |cons a r ih=>show dM.cells a++dM.l r=_;rw[ih,sP];rfl
theorem uH (h:Hf):∀L:List (List (List Val)),J5 h (L.map bH) (dM.l L)
 |[]=>.nil
 |a::r=>.cons _ _ _ _ (afS h a) (uH h r)
theorem holds_nil {r:List Val}(h:iR r):kB r []=(true,0):=by
 have:r.all Val.may=true:=all_eq_true.2 h;simp[kB,this,Ex.GG,holdL]
theorem abP {L:List (List Val)}(hm:∀r∈L,iR r):lQ [] L=L/\jw [] L=[]/\kP [] L 0=0:=by
 refine⟨List.filter_eq_self.2 λ r hr=>by rw[holds_nil (hm r hr)],filter_eq_nil_iff.2 λ r hr=>by rw[holds_nil (hm r hr)];simp,?_⟩;unfold kP
 induction L with
 |nil=>rfl
 |cons a r ih =>
  rw[foldl_cons,holds_nil (hm a (by simp)),S0];exact ih λ x hx=>hm x (by simp[hx])
theorem akz {w:jP}(hw:w.dz)(ok:eK w){t:bo}{k:Nat}{L0:List (List Val)}(A:TabAt w t k L0):
  Vb 65 (dC (aA.ds w.aO.tables) (aQ.ds w.aO.indexes) nS {kind:=6,table:=t} nS nS nS 0) (w.rows.map bH) 0
   (λ r=>dC (aA.ds w.aO.tables) (aQ.ds w.aO.indexes) (.sl r 0 w.rows.length 1) {kind:=6,table:=t} nS nS nS (L0.length:Int)) (λ _=>(w.rows.map bH).set k (aW [])):=by
 intro H n p r hp hr hpr ht;have hset:∀v,(dC (aA.ds w.aO.tables) (aQ.ds w.aO.indexes) nS {kind:=6,table:=t} nS nS nS 0).set 2 v=dC (aA.ds w.aO.tables) (aQ.ds w.aO.indexes) v {kind:=6,table:=t} nS nS nS 0:=λ v=>rfl;rw[hset]at hp;have hpn:=ht.lt hp;have hrn:=ht.lt hr;have hT:=A.ok ok;have hv0:∀r∈L0,r.length<=aM:=by rw[<-A.r];exact λ r hr'=>(hw.r _ (b6 A.k2) r hr').1
 have hL0:=hT.len;have hRk:(w.rows.map bH)[k]'(by simpa using A.k2)=bH L0:=by rw[List.getElem_map,A.r]
 have hlm:(w.rows.map bH).length=w.rows.length:=by simp
 obtain⟨e1,e2,e3⟩:=abP (jA hT.fits)
 refine(Ry (s:=w.aO) (t:=t) (k:=k) (RC:=w.rows.map bH) (c:=[]) (L:=L0) ⟨⟨rfl,rfl,rfl,rfl,rfl,rfl,rfl,rfl⟩,hw.s.t,A.a,by simpa using A.k2,aJ.nO λ v hv=>by obtain⟨L,_,rfl⟩:=mem_map.1 hv;simp,hp,hr,hpn,hrn,hpr,HT (by simp) (by simp) (by simp) (by simp) (by simp) hrn⟩
  hRk (by simp) (by simp) (by omega) hv0 rfl ht).mono λ u K k' ⟨q1,⟨y,q2,q3⟩,⟨z,q4,q5⟩,q6,q7⟩=>⟨by rw[q1,e3],λ _=>⟨⟨y,q2,?_⟩,⟨z,q4,by rw[e2]at q5;exact q5⟩⟩,q6,q7⟩
 rw[e1,hlm]at q3;exact q3
theorem aky {w:jP}(hw:w.dz){t:bo}{k:Nat}(A:TabAt w t k [])(hk:(aB [t]).length<=16):
  Vb 67 (dC (aA.ds w.aO.tables) (aQ.ds w.aO.indexes) nS (Rn t) nS nS nS 0) (w.rows.map bH) 0
   (λ r=>dC (aA.ds w.aO.tables) (aQ.ds w.aO.indexes) (.sl r 0 w.rows.length 1) (Rn t) (cK.ds (namesT [t])) (cQ.ds (aB [t])) nS 0) (λ _=>w.rows.map bH):=by
 intro H n p r hp hr hpr ht;have hset:∀v,(dC (aA.ds w.aO.tables) (aQ.ds w.aO.indexes) nS (Rn t) nS nS nS 0).set 2 v=dC (aA.ds w.aO.tables) (aQ.ds w.aO.indexes) v (Rn t) nS nS nS 0:=λ v=>rfl;rw[hset]at hp;have hpn:=ht.lt hp;have hrn:=ht.lt hr;have hRk:(w.rows.map bH)[k]'(by simpa using A.k2)=bH []:=by rw[List.getElem_map,A.r]
 have hlm:(w.rows.map bH).length=w.rows.length:=by simp
 have hn:(namesT [t]).length=(aB [t]).length:=by simp[namesT,aB,bo.kinds]
 refine(aaC (s:=w.aO) (t:=t) (k:=k) (RC:=w.rows.map bH) (names:=namesT [t]) (kinds:=aB [t]) hw.s.t (by simpa using A.k2) A.a hRk (by unfold aM;omega) (by unfold aM;omega) rfl rfl rfl rfl rfl rfl rfl rfl rfl hp hr hpr (HT (by simp) (by simp) (by simp) (by simp) (by simp) hrn) ht).mono
  λ u K k' ⟨q1,⟨y,q2,q3⟩,q6,q7⟩=>⟨q1,λ _=>⟨⟨y,q2,?_⟩,⟨_,(q6 r hrn (Ne.symm hpr)).trans hr,OwnB.list rfl⟩⟩,λ c h1 h2 _=>q6 c h1 h2,q7⟩
 rw[hlm]at q3;exact q3
def DU (table:List Nat):List Src:=[⟨table,[],nA⟩]
theorem AZ:nA.sz<=aM:=by simp[nA,Ex.sz,Ex.zW,aM]
theorem aar (table:List Nat):(df table).may=decide (bA table):=by
 have hb:=rP;simp[cM.may,df,nI,vG,Src.ok,Ex.maybe,hb]
theorem RU (table:List Nat):ae pG 113 [.agg (df table).cells 15] (.bool (df table).may):=by
 have hc:(df table).cells=[.bool false,.bool true,Fg.ds [],gA.ds (DU table),zI 0,zI 0,zI 0,.str [],.str [],.str [],zI 0,eX.ds [],Fe.ds [],.bool false,zI 0]:=by
  simp[df,nI,cM.cells,nA,Ex.cells,Ex.bq,DU,aL.ds,aL.l]
 have hz:nA.av=.agg [zI 0,zI 0,zI 0,.str [],.str [],.str [],zI 0,eX.ds []] 8:=by
  simp[nA,Ex.av,Ex.cells,Ex.bq,aL.ds,aL.l]
 have hm:nA.maybe=true:=by have hb:=rP;simp[Ex.maybe,hb]
 have h112:=KX nA AZ;have ahw:=uP nA;have abS:=rz table;have hsx:e9 10 (gA.ds (DU table)) (zI 0)=.val (.dp (gA.cells ⟨table,[],nA⟩++[])):=gA.ix (ik:=.i64) (l:=DU table) (i:=0) (by simp[DU])
 have hld:∀H:Hp,cZ 10 (.dp (gA.cells ⟨table,[],nA⟩++[])) H=.val (.agg [.str table,.str [],zI 0,zI 0,zI 0,.str [],.str [],.str [],zI 0,eX.ds []] 10):=λ H=>by
  rw[gA.mf];simp[aL.av,gA,nA,Ex.cells,Ex.bq,aL.ds,aL.l]
 have ls:aZ (gA.ds (DU table))=.val (zI 1):=rfl;have li:aZ (Fg.ds [])=.val (zI 0):=rfl;have lo:aZ (Fe.ds [])=.val (zI 0):=rfl;have oe:(eX.ds []).one=true:=rfl;rw[hm,hz]at h112;rw[hz]at ahw;simp only[rP,decide_true]at ahw;rw[aar,hc];have ps:Pure (gA.ds (DU table)):=by simp
 generalize gA.ds (DU table)=sv at hsx ls ps ⊢;generalize (AV.dp (gA.cells ⟨table,[],nA⟩++[]))=dv at hsx hld;refine hU c113 (by simp[ps]) (by simp) (by simp[A113]) λ F hF=>?_;simp[A113,hF];generalize hK:Tr.put _ 0 _=K;have k0:K.get 0=aG 15 [.bool false,.bool true,Fg.ds [],sv,zI 0,zI 0,zI 0,.str [],.str [],.str [],zI 0,eX.ds [],Fe.ds [],.bool false,zI 0]:=by rw[<-hK];simp
 clear hK hF;simp[Zl,k0];refine aw.pure h112 ?_;simp[k0,ls,lo];generalize hF1:(Fp 3 _ _:Fr)=F1;have f1:F1.get 1=some (.ptr 0 0):=by rw[<-hF1];simp
 have f3:F1.get 3=some (.bool true):=by rw[<-hF1];simp
 clear hF1;simp[Zk,f1,k0,Zj,f3,li,Zi];refine aE.Py 0 (eE.step ?_);simp[ZQ,NZ,f1,k0,ls];refine aE.Py 1 (eE.step ?_);simp[ZP,hsx,hld,oe];generalize hK2:Tr.put (Tr.put K 1 _) 1 _=K2;have c0:K2.get 0=aG 15 [.bool false,.bool true,Fg.ds [],sv,zI 0,zI 0,zI 0,.str [],.str [],.str [],zI 0,eX.ds [],Fe.ds [],.bool false,zI 0]:=by rw[<-hK2];simp[k0]
 have c1:K2.get 1=aG 10 [.str table,.str [],zI 0,zI 0,zI 0,.str [],.str [],.str [],zI 0,eX.ds []]:=by rw[<-hK2];simp
 clear hK2;generalize hF2:(Fp 6 _ _:Fr)=F2;have g1:F2.get 1=some (.ptr 0 0):=by rw[<-hF2];simp[f1]
 have g3:F2.get 3=some (.bool true):=by rw[<-hF2];simp
 have g6:F2.get 6=some (zI 0):=by rw[<-hF2];simp
 have g7:F2.get 7=some (.ptr 1 0):=by rw[<-hF2];simp
 have g81:F2.get 81=some (zI 1):=by rw[<-hF2];simp
 have g82:F2.get 82=some (zI 0):=by rw[<-hF2];simp
 clear hF2 f1 f3 F1 k0
 by_cases hn:bA table
 ·simp only[hn,decide_true]at abS ⊢;simp[CY,g3,g7,c1];refine aw.pure abS ?_;simp[g7,c1,g6];refine aw.pure ahw ?_;simp;generalize hF3:(Fp 3 _ _:Fr)=F3;have h1:F3.get 1=some (.ptr 0 0):=by rw[<-hF3];simp[g1]
  have h3:F3.get 3=some (.bool true):=by rw[<-hF3];simp
  have h81:F3.get 81=some (zI 1):=by rw[<-hF3];simp[g81]
  have h82:F3.get 82=some (zI 0):=by rw[<-hF3];simp[g82]
  clear hF3;simp[CX,h82,show IntKind.i64.wrap 1=1 by decide];refine eE.step ?_;simp[h81,CW,h1,c0,lo];refine aE.Py 0 (eE.step ?_);simp[J4,CV,h3];exact .bool rfl
 simp only[hn,decide_false]at abS ⊢;simp[CY,g3,g7,c1];refine aw.pure abS ?_;simp;generalize hF3:(Fp 3 _ _:Fr)=F3;have h1:F3.get 1=some (.ptr 0 0):=by rw[<-hF3];simp[g1]
 have h3:F3.get 3=some (.bool false):=by rw[<-hF3];simp
 have h81:F3.get 81=some (zI 1):=by rw[<-hF3];simp[g81]
 have h82:F3.get 82=some (zI 0):=by rw[<-hF3];simp[g82]
 clear hF3;simp[CX,h82,show IntKind.i64.wrap 1=1 by decide];refine eE.step ?_;simp[h81,CW,h1,c0,lo];refine aE.Py 0 (eE.step ?_);simp[J4,CV,h3];exact .bool rfl
theorem Hz {table:List Nat}{rows:List (List Ex)}(X:ma rows):(cY table rows).sm:=by
 have h:=AZ;refine⟨?_,?_,X.l,X.r,?_,?_,h,?_,?_,?_,?_,?_,?_⟩<;>simp[cY,bN.z,nI,h]
theorem ahU (table:List Nat):(gW table).sm:=by
 have h:=AZ;refine⟨?_,?_,?_,?_,?_,?_,h,?_,?_,?_,?_,?_,?_⟩<;>simp[gW,bN.z,nI,h]
theorem afX (table:List Nat):(fW table).sm:=by
 have h:=AZ;refine⟨?_,?_,?_,?_,?_,?_,h,?_,?_,?_,?_,?_,?_⟩<;>simp[fW,df,bN.z,nI,h]
 decide
theorem vK {w:jP}(hw:w.dz)(ok:eK w):∀L∈w.rows,ae pG 58 [aW L] (bH L):=by
 intro L hL;obtain⟨i,hi,rfl⟩:=getElem_of_mem hL;have hT:=ok.t i hi (by rw[<-ok.l];exact hi);have h:=acN w.rows[i] (by have:=hT.len;omega) (λ l hl=>(hw.r _ hL l hl).1) (jA hT.fits);rw[hT.self]at h;exact h
def ig (w:jP)(k:Nat)(L:List (List Val)):jP:=⟨w.aO,w.rows.set k L⟩
def um (w:jP)(N C W:AV)(c:Int):AV:=.aX [fc.av w,.agg [N,C,W,zI c] 4,zI 0]
theorem Ad (w:jP)(N C W:AV)(c:Int):resV (aA.ds w.aO.tables) (aQ.ds w.aO.indexes) (dM.ds w.rows) N C W c 0=um w N C W c:=Eq.trans rfl rfl
theorem s6 {w:jP}(hw:w.dz)(ok:eK w){table:List Nat}{rows:List (List Ex)}(I:qj w.aO table rows)(X:ma rows)(hl:rows.length<=100){k:Nat}{L0:List (List Val)}(A:TabAt w (w.aO.named table).1 k L0){l:List (List Ex)}(hll:l=rows.map (rowB (w.aO.named table).1)):
  ae pG 10 [fc.av w,(cY table rows).av] (if qD w.aO (w.aO.named table).1 L0 l=0 then um (ig w k (jZ (L0++ba l))) nS nS nS (l.length:Int)else D8 (qD w.aO (w.aO.named table).1 L0 l)):=by
 have hb:=UY I;have hB:=X.bound (w.aO.named table).1;rw[<-hll]at hb hB;rw[<-Ad];refine xz w hw _ (xu w.aO hw.s _ (Hz X) (.inl rfl)) ok (by rw[hb]) (λ e=>by have:=A.k2;rw[e]at this;simp at this) (vK hw ok) 64 rfl _ nS nS nS ⟨rfl,rfl,rfl⟩ ⟨by simp,by simp,by simp⟩ _ ((w.rows.set k (jZ (L0++ba l))).map bH) (w.rows.set k (jZ (L0++ba l))) (by simp) (λ h=>uH h _) ?_;rw[hb];refine akA hw ok A (by rw[hll];simpa using hl) hB (by rw[hll];simpa using I.l) λ r hr=>?_;rw[hll]at hr;obtain⟨q,hq,rfl⟩:=mem_map.1 hr;rw[D5];exact(I.i q hq).1
theorem Qo {w:jP}(hw:w.dz)(ok:eK w){table:List Nat}(h2:bA table)(h3:(w.aO.named table).2=true){k:Nat}{L0:List (List Val)}(A:TabAt w (w.aO.named table).1 k L0):
  ae pG 10 [fc.av w,(gW table).av] (um (ig w k []) nS nS nS (L0.length:Int)):=by
 have hb:=UZ ok.s h2 h3;rw[<-Ad];refine(xz w hw _ (xu w.aO hw.s _ (ahU table) (.inr (.inl ⟨rfl,rP⟩))) ok (by rw[hb]) (λ e=>by have:=A.k2;rw[e]at this;simp at this) (vK hw ok) 65 rfl 0 nS nS nS ⟨rfl,rfl,rfl⟩ ⟨by simp,by simp,by simp⟩ _ ((w.rows.map bH).set k (aW [])) (w.rows.set k []) (by simp) (λ h=>?_) ?_)
 ·rw[Fb,List.map_set,<-Fb];exact J5.set (FJ.refl _ _) k (uH h _)
 rw[hb];exact akz hw ok A
theorem Rm {w:jP}(hw:w.dz)(table:List Nat):ae pG 23 [fe.av w.aO,(fW table).av] (.aX [.agg (cy w.aO (fW table)).1.cells 25,zI (cy w.aO (fW table)).2]):=by
 refine xu w.aO hw.s _ (afX table) (.inr (.inr ⟨rfl,RU table,rP,λ y hy=>?_,rfl,rfl⟩));obtain rfl:y=⟨table,[],nA⟩:=by simpa[fW,df]using hy
 exact rP
theorem Qn {w:jP}(hw:w.dz)(ok:eK w){table:List Nat}(h2:bA table)(h3:(w.aO.named table).2=true){k:Nat}(A:TabAt w (w.aO.named table).1 k [])(h4:(aB [(w.aO.named table).1]).length<=16):
  ae pG 10 [fc.av w,(fW table).av] (um w (cK.ds (namesT [(w.aO.named table).1])) (cQ.ds (aB [(w.aO.named table).1])) nS 0):=by
 have hb:=UX ok.s h2 h3 h4;rw[<-Ad];refine(xz w hw _ (Rm hw table) ok (by rw[hb]) (λ e=>by have:=A.k2;rw[e]at this;simp at this) (vK hw ok) 67 rfl 0 (cK.ds (namesT [(w.aO.named table).1])) (cQ.ds (aB [(w.aO.named table).1])) nS ⟨rfl,rfl,rfl⟩ ⟨by simp,by simp,by simp⟩ _ (w.rows.map bH) w.rows rfl (λ h=>uH h _) ?_);rw[hb];exact aky hw A h4
end Go.Abs
namespace Go.Abs
open List
open Go.Proofs
open Classical
set_option maxRecDepth 100000
theorem agU {a b:Int}(h:m8 a b=0):a=0/\b=0:=(EB a b).1 h
theorem Ug:∀(r:List Ex){a:Int},nV [] r a=0->a=0/\nV [] r 0=0
 |[],a,h=>⟨h,rfl⟩
 |e::r,a,h=>by
  unfold nV at h ⊢;rw[foldl_cons]at h ⊢;obtain⟨h1,h2⟩:=Ug r (a:=m8 a (qd [] e).2) h;obtain⟨h3,h4⟩:=agU h1;refine⟨h3,?_⟩;rw[h3]at h;exact h
theorem EX:∀(l:List (List Ex)){a:Int},l.foldl (λ a r=>nV [] r a) a=0->a=0/\∀r∈l,nV [] r 0=0
 |[],a,h=>⟨h,by simp⟩
 |r::l,a,h=>by
  rw[foldl_cons]at h;obtain⟨h1,h2⟩:=EX l h;obtain⟨h3,h4⟩:=Ug r h1;refine⟨h3,λ x hx=>?_⟩
  rcases mem_cons.1 hx with rfl|hx
  ·exact h4
  exact h2 x hx
theorem af' {s:bB}{t:bo}{L F:List (List Val)}(h:sw s t (L++F) F=0):(L++F).length<=4096/\dR s t (L++F)=0:=by
 unfold sw at h
 split at h
 ·rename_i hc;exact ai h hc.1
 split at h
 ·omega
 exact⟨by omega,h⟩
theorem aaG {s:bB}{t:bo}{L F:List (List Val)}(h1:(L++F).length<=4096)(h2:dR s t (L++F)=0):sw s t (L++F) F=0:=by
 have h3:=wP (List.sublist_append_right L F) h2;unfold sw;rw[ah (λ hc=>hc.1 h3),ah (by omega)];exact h2
theorem TA {s:bB}{t:bo}{L:List (List Val)}{l:List (List Ex)}:qD s t L l=0↔(∀r∈l,nV [] r 0=0)/\(L++ba l).length<=4096/\dR s t (L++ba l)=0:=by
 constructor
 ·intro h;unfold qD at h
  by_cases h0:fE l=0
  ·rw[ah (by simp[h0])]at h;exact⟨(EX l h0).2,af' h⟩
  rw[ao h0]at h;exact ai h h0
 rintro⟨h1,h2,h3⟩
 have h0:fE l=0:=by
  unfold fE;clear h2 h3
  induction l with
  |nil=>rfl
  |cons r l ih =>
   rw[foldl_cons,h1 r (by simp)];exact ih λ x hx=>h1 x (by simp[hx])
 unfold qD;rw[ah (by simp[h0])];exact aaG h2 h3
theorem Ec (w:jP)(k:Nat)(A B:List (List Val)):ig (ig w k A) k B=ig w k B:=by simp[ig]
theorem O_ {w:jP}{k:Nat}(h:k<w.rows.length):ig w k w.rows[k]=w:=by simp[ig]
theorem yR {w:jP}(hw:w.dz)(k:Nat){L:List (List Val)}(hl:L.length<=aM)(hr:∀r∈L,r.length<=aM/\∀v∈r,v.eA):(ig w k L).dz:=by
 refine⟨hw.s,hw.g,by simpa[ig]using hw.l,λ t ht=>?_,λ t ht=>?_⟩
 ·rcases mem_or_eq_of_mem_set ht with h|rfl
  ·exact hw.t t h
  exact hl
 rcases mem_or_eq_of_mem_set ht with h|rfl
 ·exact hw.r t h
 exact hr
theorem aaF {w:jP}(hw:w.dz)(ok:eK w){t:bo}{k:Nat}{L0:List (List Val)}(A:TabAt w t k L0){L:List (List Val)}(hl:L.length<=4096)(hf:dR w.aO t L=0)(hv:∀r∈L,r.length<=aM/\∀v∈r,v.eA):
  (ig w k (jZ L)).dz/\eK (ig w k (jZ L))/\TabAt (ig w k (jZ L)) t k (jZ L):=by
 have hm:=jA hf;obtain⟨h1,h2⟩:=vF hm;have hlen:=h1.length_eq;refine⟨yR hw k (by unfold aM;omega) λ r hr=>hv r (h1.mem_iff.1 hr),ok.put A.k1 ?_,⟨A.k1,by simpa[ig]using A.k2,A.e,by simp[ig],A.a⟩⟩;rw[A.e];exact nj.of (by omega) (zw h1 hf) h2
structure jF (w:jP)(table:List Nat)(rows:List (List Ex))(k:Nat)(L0:List (List Val)):Prop where
 hw:w.dz
 ok:eK w
 I:qj w.aO table rows
 X:ma rows
 hl:rows.length<=100
 A:TabAt w (w.aO.named table).1 k L0
 e:qD w.aO (w.aO.named table).1 L0 (rows.map (rowB (w.aO.named table).1))=0
def dG (w:jP)(table:List Nat)(rows:List (List Ex)):List (List Val):=ba (rows.map (rowB (w.aO.named table).1))
def ui (w:jP)(table:List Nat)(rows:List (List Ex))(k:Nat)(L0:List (List Val))(i:Nat):jP:=ig w k (jZ (L0++(dG w table rows).take i))
section
variable {w:jP}{table:List Nat}{rows:List (List Ex)}{k:Nat}{L0:List (List Val)}
theorem jF.facts (h:jF w table rows k L0):(L0++dG w table rows).length<=4096/\dR w.aO (w.aO.named table).1 (L0++dG w table rows)=0/\(∀r∈rows.map (rowB (w.aO.named table).1),nV [] r 0=0)/\(∀r∈L0++dG w table rows,r.length<=aM/\∀v∈r,v.eA)/\(dG w table rows).length=rows.length:=by
 obtain⟨h1,h2,h3⟩:=TA.1 h.e;refine⟨h2,h3,h1,λ r hr=>?_,by simp[dG,ba]⟩
 rcases mem_append.1 hr with hr|hr
 ·have:=h.hw.r _ (b6 h.A.k2);rw[h.A.r]at this;exact this r hr
 exact(h.X.bound _).fresh r hr
theorem jF.st (h:jF w table rows k L0)(i:Nat):(ui w table rows k L0 i).dz/\eK (ui w table rows k L0 i)/\TabAt (ui w table rows k L0 i) (w.aO.named table).1 k (jZ (L0++(dG w table rows).take i)):=by
 obtain⟨h1,h2,_,h4,_⟩:=h.facts;have hs:(L0++(dG w table rows).take i).Sublist (L0++dG w table rows):=(List.Sublist.refl _).append (List.take_sublist _ _);exact aaF h.hw h.ok h.A (uo hs.length_le h1) (wP hs h2) λ r hr=>h4 r (hs.subset hr)
theorem jF.zero (h:jF w table rows k L0):ui w table rows k L0 0=w:=by
 have hT:=(h.A.ok h.ok).self;unfold ui;rw[take_zero,append_nil,hT,<-h.A.r];exact O_ h.A.k2
theorem jF.all (h:jF w table rows k L0):ae pG 10 [fc.av w,(cY table rows).av] (um (ui w table rows k L0 rows.length) nS nS nS (rows.length:Int)):=by
 have:=s6 h.hw h.ok h.I h.X h.hl h.A rfl;rw[ao h.e]at this;have e:=h.facts.2.2.2.2;unfold ui;rw[eZ (by omega)];simpa[dG]using this
theorem jF.step (h:jF w table rows k L0){i:Nat}(hi:i<rows.length):ae pG 10 [fc.av (ui w table rows k L0 i),(cY table [rows[i]]).av] (um (ui w table rows k L0 (i+1)) nS nS nS 1):=by
 obtain⟨h1,h2,h3,h4,h5⟩:=h.facts;obtain⟨s1,s2,s3⟩:=h.st i;have hm:=b6 hi;have I1:qj (ui w table rows k L0 i).aO table [rows[i]]:=h.I.one hm;have X1:ma [rows[i]]:=⟨by simp[aM],λ r hr=>by simp at hr;subst hr;exact h.X.r _ hm,λ r hr=>by simp at hr;subst hr;exact h.X.g _ hm⟩;have ap:=s6 s1 s2 I1 X1 (by simp) s3 rfl;have hff:ba (([rows[i]]:List (List Ex)).map (rowB (w.aO.named table).1))=[(dG w table rows)[i]'(by omega)]:=by simp[dG,ba]
 have hs:(L0++(dG w table rows).take (i+1)).Sublist (L0++dG w table rows):=(List.Sublist.refl _).append (List.take_sublist _ _)
 have htk:L0++(dG w table rows).take (i+1)=(L0++(dG w table rows).take i)++[(dG w table rows)[i]'(by omega)]:=by
  rw[take_add_one,cE (by omega)];simp
 have hmay:=jA h2;have hs0:(L0++(dG w table rows).take i).Sublist (L0++dG w table rows):=(List.Sublist.refl _).append (List.take_sublist _ _);have hp:=(vF (L:=L0++(dG w table rows).take i) λ r hr=>hmay r (hs0.subset hr)).1;have hpp:(jZ (L0++(dG w table rows).take i)++[(dG w table rows)[i]'(by omega)]).Perm (L0++(dG w table rows).take (i+1)):=by rw[htk];exact hp.append_right _
 have e0:qD (ui w table rows k L0 i).aO (w.aO.named table).1 (jZ (L0++(dG w table rows).take i)) (([rows[i]]:List (List Ex)).map (rowB (w.aO.named table).1))=0:=by
  refine TA.2 ⟨λ r hr=>h3 r ?_,?_,?_⟩
  ·simp at hr;subst hr;exact mem_map_of_mem hm
  ·rw[hff,hpp.length_eq];exact uo hs.length_le h1
  rw[hff];exact zw hpp (wP hs h2)
 have e1:(ui w table rows k L0 i).aO=w.aO:=rfl;rw[e1]at ap e0;rw[ao e0,hff,aam (by rw[<-htk];exact λ r hr=>hmay r (hs.subset hr)),<-htk]at ap;have e2:ig (ui w table rows k L0 i) k (jZ (L0++(dG w table rows).take (i+1)))=ui w table rows k L0 (i+1):=Ec _ _ _ _;rw[e2]at ap;simpa using ap
theorem jF.del (h:jF w table rows k L0)(i:Nat):∃c:Int,ae pG 10 [fc.av (ui w table rows k L0 i),(gW table).av] (um (ig w k []) nS nS nS c):=by
 obtain⟨s1,s2,s3⟩:=h.st i;have:=Qo s1 s2 h.I.n h.I.t s3;rw[show ig (ui w table rows k L0 i) k []=ig w k []from Ec _ _ _ _]at this;exact⟨_,this⟩
theorem jF.m6 (h:jF w table rows k L0):∃N C:AV,Pure N/\Pure C/\N.one=true/\C.one=true/\ae pG 10 [fc.av (ig w k []),(fW table).av] (um (ig w k []) N C nS 0):=by
 have hmem:=h.I.mem.1;have hA:=h.A;refine⟨_,_,?_,?_,rfl,rfl,Qn (w:=ig w k []) (k:=k) (table:=table) (yR h.hw k (by simp) (by simp)) (h.ok.put hA.k1 (nj.nil _ _)) h.I.n h.I.t ⟨hA.k1,by simpa[ig]using hA.k2,hA.e,by simp[ig],hA.a⟩ ?_⟩
 ·simp
 ·simp
 obtain⟨i,hi,he⟩:=getElem_of_mem hmem;have:=(h.ok.s.tabs i hi).cols.2.1;rw[he]at this;have e2:(ig w k []).aO=w.aO:=rfl;rw[e2];simpa[aB,bo.kinds]using this
end
end Go.Abs
namespace Go.Abs
open List
open Go.Proofs
open Classical
set_option maxRecDepth 100000
def qzC:List AV:=[(.bool false),(.bool false),nS,nS,(zI 0),(zI 0),(zI 0),(.str []),(.str []),(.str []),(zI 0),nS,nS,(.bool false),(zI 0)]
def hvR:List (List (List Val))->Nat->Bool
 |[],_=>false
 |L::r,a=>if 5000<a+L.length then true else hvR r (a+L.length)
theorem TD (L:List (List Val))(r:List (List (List Val)))(a:Nat):hvR (L::r) a=if 5000<a+L.length then true else hvR r (a+L.length):=rfl
theorem ahr (w:jP)(hw:w.dz):ae pG 8 [fc.av w,.agg qzC 15] (.bool (hvR w.rows 0)):=by
 refine hU c8 (by simp[qzC]) (by simp) (by simp[A8]) λ F hF=>?_;have hl:=hw.l;unfold aM at hl;simp[A8,hF,aL.av,jf,qzC]
 refine aE.of (λ q F K n ms=>∃(i a:Nat) (mo:Int),q=w.rows.length - i/\i<=w.rows.length/\a<=5000/\F.get 2=some (.ptr 0 0)/\F.get 3=some (.ptr 1 0)/\F.get 5=some (zI (a:Int))/\F.get 6=some (zI mo)/\F.get 7=some (zI (i:Int))/\K.get 0=aG 3 [aA.ds w.aO.tables,aQ.ds w.aO.indexes,dM.ds w.rows]/\K.get 1=aG 15 qzC/\hvR w.rows 0=hvR (w.rows.drop i) a/\ms=[]) w.rows.length
  ⟨0,0,1,by omega,by omega,by omega,by simp,by simp,by simp,by simp,by simp,by simp,by simp[qzC],by simp,rfl⟩ ?_
 clear hF F;rintro q F K n ms ⟨i,a,mo,rfl,hi,ha,f2,f3,f5,f6,f7,k0,k1,hv,rfl⟩
 by_cases h:i<w.rows.length
 ·have hx:=dM.ix (ik:=.i64) h;rw[sP]at hx;have hL:=hw.t _ (b6 h);rw[km h,TD]at hv;generalize w.rows[i]=L at *;unfold aM at hL;have w1:IntKind.i64.wrap ((a:Int)+(L.length:Int))=((a+L.length:Nat):Int):=by simp[IntKind.wrap,IntKind.signed,IntKind.bits];omega
  have hlen:aZ (aW L)=.val (zI (L.length:Int)):=rfl
  obtain⟨rA,hmax⟩:∃rA:Int,Hm [zI mo,zI (L.length:Int)]=some (zI rA):=by
   exact⟨if (L.length:Int)>mo then (L.length:Int)else mo,by simp[Hm,PL]⟩
  have wi:=aC i (by omega)
  by_cases h5:5000<a+L.length
  ·rw[ao h5]at hv;simp[acB,f2,f7,k0,aL.aD,h,f5,hx,hlen,w1,f6,wW,hmax,show (5000:Int)<(a:Int)+(L.length:Int) by omega];exact .bool (by rw[hv])
  rw[ah h5]at hv;simp[acB,f2,f7,k0,aL.aD,h,f5,hx,hlen,w1,f6,wW,hmax,show ¬(5000:Int)<(a:Int)+(L.length:Int) by omega,wi];exact⟨_,by omega,i+1,rfl,by omega,a+L.length,by omega,f3,by simp,by simp,k1,hv⟩
 obtain rfl:i=w.rows.length:=by omega
 have hv':hvR w.rows 0=false:=by rw[hv];simp[hvR]
 simp[acB,f2,f7,k0,aL.aD,adZ,adY];refine aE.Py 0 (eE.step ?_);simp[aoz,f3,k1,qzC,adX];exact .bool (by rw[hv'])
theorem jF.of {w:jP}(hw:w.dz){table:List Nat}{rows:List (List Ex)}(X:ma rows) (hl:rows.length<=100):
  (∃e:Int,e≠0/\ae pG 10 [fc.av w,(cY table rows).av] (D8 e))∨∃k L0,jF w table rows k L0:=by
 by_cases ok:eK w
 ·by_cases hb:(cy w.aO (cY table rows)).2=0
  ·have I:=ag9 hb;obtain⟨k,hk,e1,e2⟩:=ok.s.at hw.g I.mem.1;have hk2:k<w.rows.length:=by rw[ok.l];exact hk
   have A:TabAt w (w.aO.named table).1 k w.rows[k]:=⟨hk,hk2,e1,rfl,e2⟩
   by_cases he:qD w.aO (w.aO.named table).1 w.rows[k] (rows.map (rowB (w.aO.named table).1))=0
   ·exact .inr ⟨k,_,hw,ok,I,X,hl,A,he⟩
   have:=s6 hw ok I X hl A rfl;rw[ah he]at this;exact .inl ⟨_,he,this⟩
  have:=FZ w hw (cY table rows) (xu w.aO hw.s _ (Hz X) (.inl rfl)) (.inr hb);rw[ao ok]at this;exact .inl ⟨_,hb,this⟩
 have:=FZ w hw (cY table rows) (xu w.aO hw.s _ (Hz X) (.inl rfl)) (.inl ok);rw[ah ok]at this;exact .inl ⟨1,by omega,this⟩
theorem ae.nl {g:FuncId}{v R:AV}{l l':List AV}{n:Nat}(h:ae pG g [v,.agg l' n] R)(hp:aJ [v,.agg l n])(hn:NL l l'):ae pG g [v,.agg l n] R:=by
 refine h.conv hp λ D xs hv=>?_
 cases hv with
 |cons _ y0 _ ys h0 hv =>
 cases hv with
 |cons _ y1 _ ys h1 hv =>
 refine .cons _ _ _ _ h0 (.cons _ _ _ _ ?_ hv)
 cases h1 with
 |agg _ l _ a b=>exact .agg _ _ _ (hn.uh a) (by rw[hn.len];exact b)
def nH (kind:Int)(table:List Nat)(rv sv:AV)(star:Bool):List AV:=[zI kind,.str table,.str [],nS,nS,.bool false,rv,nS,zI 0,zI 0,zI 0,.str [],.str [],.str [],zI 0,nS,.bool false,.bool star,nS,sv,zI 0,zI 0,zI 0,.str [],.str [],.str [],zI 0,nS,nS,.bool false,zI 0]
theorem Ae {v R:AV}{table:List Nat}{rows:List (List Ex)}(h:ae pG 10 [v,(cY table rows).av] R)(hp:Pure v):ae pG 10 [v,.agg (nH 5 table (dA.ds rows) nS false) 31] R:=
 ae.nl (l':=(cY table rows).cells) h (by simp[nH,hp]) (by
  have:=PD;simp[nH,cY,bN.z,bN.cells,nI,cM.cells,nA,Ex.cells,this])
theorem aaA {v R:AV}{table:List Nat}(h:ae pG 10 [v,(gW table).av] R)(hp:Pure v):ae pG 10 [v,.agg (nH 6 table nS nS false) 31] R:=
 ae.nl (l':=(gW table).cells) h (by simp[nH,hp]) (by
  have:=PD;simp[nH,gW,bN.z,bN.cells,nI,cM.cells,nA,Ex.cells,this])
def Rb (table:List Nat):List AV:=[.str table,.str [],zI 0,zI 0,zI 0,.str [],.str [],.str [],zI 0,nS]
theorem aaz {v R:AV}{table:List Nat}(h:ae pG 10 [v,(fW table).av] R)(hp:Pure v):ae pG 10 [v,.agg (nH 8 [] nS (gA.ds [⟨table,[],nA⟩]) true) 31] R:=
 ae.nl (l':=(fW table).cells) h (by simp[nH,hp]) (by
  have:=PD;simp[nH,fW,df,bN.z,bN.cells,nI,cM.cells,nA,Ex.cells,this])
theorem aL.akN {α:Type}{k:Nat}(E:aL α k){l:List α}{i:Nat}(h:i<l.length):mL k (some (zI (i:Int))) (some (zI ((i+1:Nat):Int))) none (E.ds l)=.val (E.ds [l[i]]):=by
 unfold mL aL.ds
 have:Br l.length (some (zI (i:Int))) (some (zI ((i+1:Nat):Int))) none=some (i,i+1):=by
  have h1:i+1<=l.length:=h;simp[Br,show bnd l.length (some (zI ((i:Int)+1)))=some (i+1)from rfl,show bnd l.length none=some l.length from rfl,show bnd 0 (some (zI (i:Int)))=some i from rfl,h1]
 simp only[this];simp;rw[E.abu,km h];rw[E.kz,E.lP];exact take_left' (E.bf _)
structure aiP (T I:AV)(W:Nat->AV)(len:Nat)(i:Nat)(K:Hp)(n:Nat):Prop where
 k1:K.get 1=aG 3 [T,I,W len]
 k2:K.get 2=aG 4 [nS,nS,nS,zI (len:Int)]
 k3:K.get 3=aG 3 [T,I,W i]
 kt:cA K n
 n4:4<=n
structure acy (table:List Nat)(rows:List (List Ex))(F:Fr):Prop where
 f1:F.get 1=some (.str table)
 f2:F.get 2=some (dA.ds rows)
 f7:F.get 7=some (.ptr 1 0)
 f8:F.get 8=some (.ptr 2 0)
 f10:F.get 10=some (.ptr 3 0)
theorem alu (T I:AV)(hT:T.one=true/\I.one=true)(W:Nat->AV)(hW:∀i,(W i).one=true)(table:List Nat)(rows:List (List Ex))(hl:rows.length<=50)
  (hs:∀i (h:i<rows.length),ae pG 10 [.agg [T,I,W i] 3,.agg (nH 5 table (dA.ds [rows[i]]) nS false) 31] (.aX [.agg [T,I,W (i+1)] 3,.agg [nS,nS,nS,zI 1] 4,zI 0]))
  (F:Fr)(K:Hp)(n:Nat)(Q:QA)(f11:F.get 11=some (zI 0))(G:acy table rows F)(M:aiP T I W rows.length 0 K n)
  (hQ:∀F' K' n',acy table rows F'->aiP T I W rows.length rows.length K' n'->Q .normal F' K' n' []):aE acC pG F K n [] (fy 0 Q):=by
 refine aE.of (λ q F K n ms=>∃i,q=rows.length - i/\i<=rows.length/\acy table rows F/\F.get 11=some (zI (i:Int))/\aiP T I W rows.length i K n/\ms=[]) rows.length ⟨0,by omega,by omega,G,f11,M,rfl⟩ ?_;clear f11 G M F K n;rintro q F K n ms ⟨i,rfl,hi,⟨f1,f2,f7,f8,f10⟩,f11,⟨k1,k2,k3,kt,n4⟩,rfl⟩
 by_cases h:i<rows.length
 ·have hs:=hs i h;have wi:=aC i (by omega);have hsl:=dA.akN h;rw[Int.natCast_add,show ((1:Nat):Int)=1 from rfl]at hsl wi;have nn:=kt.none;have n1:K.get n=none:=kt n (by omega);have n2:K.get (n+1)=none:=kt (n+1) (by omega);have rl:(dA.ds [rows[i]]).len=1/\(dA.ds [rows[i]]).cells=[dA.ds [rows[i]]]:=⟨rfl,rfl⟩;generalize dA.ds [rows[i]]=rv at hs hsl rl;have o1:=hW (i+1);generalize hW1:W (i+1)=W1 at hs o1;simp only[nH]at hs;simp[acC,f11,f2,aL.aD,h];generalize hF1:(Fp 47 _ _:Fr)=F1;have g1:F1.get 1=some (.str table):=by rw[<-hF1];simp[f1]
  have g2:F1.get 2=some (dA.ds rows):=by rw[<-hF1];simp[f2]
  have g10:F1.get 10=some (.ptr 3 0):=by rw[<-hF1];simp[f10]
  have g11:F1.get 11=some (zI (i:Int)):=by rw[<-hF1];simp[f11]
  have g7:F1.get 7=some (.ptr 1 0):=by rw[<-hF1];simp[f7]
  have g8:F1.get 8=some (.ptr 2 0):=by rw[<-hF1];simp[f8]
  clear hF1;refine cj.of (dK (l:=[(10,[.agg [T,I,W i] 3,.agg [zI 5,.str table,.str [],nS,nS,.bool false,rv,nS,zI 0,zI 0,zI 0,.str [],.str [],.str [],zI 0,nS,.bool false,.bool false,nS,nS,zI 0,zI 0,zI 0,.str [],.str [],.str [],zI 0,nS,nS,.bool false,zI 0] 31],λ H n=>.mk (.aX [.agg [T,I,W1] 3,.agg [nS,nS,nS,zI 1] 4,zI 0]) H n)]) ?_) ?_
  ·intro x hx;simp only[gp]at hx;subst hx;exact cL hs
  simp[ab,g10,g1,g2,g11,k3,wi,hsl,bZ,hT,o1,rl,cG,dj,n1,n2];generalize hF2:(Fp 14 _ _:Fr)=F2;have h1:F2.get 1=some (.str table):=by rw[<-hF2];simp[ab,g1]
  have h2:F2.get 2=some (dA.ds rows):=by rw[<-hF2];simp[ab,g2]
  have h7:F2.get 7=some (.ptr 1 0):=by rw[<-hF2];simp[ab,g7]
  have h8:F2.get 8=some (.ptr 2 0):=by rw[<-hF2];simp[ab,g8]
  have h10:F2.get 10=some (.ptr 3 0):=by rw[<-hF2];simp[ab,g10]
  have h11:F2.get 11=some (zI (i:Int)):=by rw[<-hF2];simp[ab,g11]
  have h12:F2.get 12=some (.ptr n 0):=by rw[<-hF2];simp
  have h13:F2.get 13=some (.ptr (n+1) 0):=by rw[<-hF2];simp
  have pq:F2.get 14=some (zI 0):=by rw[<-hF2];simp
  clear hF2;generalize hK2:Tr.put _ (n+1) (some (br.cells 4 [] [nS,nS,nS,zI 1] .nil))=K2;have j1:K2.get 1=K.get 1:=by rw[<-hK2,Tr.get_put,ah (by omega),Tr.get_put,ah (by omega),Tr.get_put,ah (by omega),Tr.get_put,ah (by omega)]
  rw[k1]at j1;have j2:K2.get 2=K.get 2:=by rw[<-hK2,Tr.get_put,ah (by omega),Tr.get_put,ah (by omega),Tr.get_put,ah (by omega),Tr.get_put,ah (by omega)]
  rw[k2]at j2;have j3:K2.get 3=K.get 3:=by rw[<-hK2,Tr.get_put,ah (by omega),Tr.get_put,ah (by omega),Tr.get_put,ah (by omega),Tr.get_put,ah (by omega)]
  rw[k3]at j3;have jn:K2.get n=aG 3 [T,I,W1]:=by rw[<-hK2];simp
  have jm:K2.get (n+1)=aG 4 [nS,nS,nS,zI 1]:=by rw[<-hK2];simp
  have jt:cA K2 (n+2):=λ b hb=>by rw[<-hK2];simp[show ¬b=n by omega,show ¬b=n+1 by omega,kt b (by omega)]
  clear hK2;simp[ad9,pq,h13,jm,ad8,h12,jn,h10,j3,hT,o1,ad7,h11,wi];refine⟨_,by omega,i+1,rfl,by omega,⟨by simp[h1],by simp[h2],by simp[h7],by simp[h8],by simp[h10]⟩,by simp,⟨?_,?_,?_,λ b hb=>?_,by omega⟩⟩
  ·simp[j1]
  ·simp[j2]
  ·simp[hW1]
  simp[show ¬b=3 by omega,jt b (by omega)]
 obtain rfl:i=rows.length:=by omega
 simp[acC,f11,f2,aL.aD];exact hQ _ _ _ ⟨by simp[f1],by simp[f2],by simp[f7],by simp[f8],by simp[f10]⟩ ⟨k1,k2,k3,kt,n4⟩
theorem als (hA:ae pG 13 [] (.bool true))(T I:AV)(hT:T.one=true/\I.one=true)(V Z:AV)(hV:V.one=true/\Z.one=true)(N C:AV)(hN:N.one=true/\C.one=true)(c:Int)(table:List Nat)(rows:List (List Ex))
  (hsame:ae pG 11 [.agg [T,I,V] 3,.agg [T,I,V] 3] (.bool true))
  (hd:ae pG 10 [.agg [T,I,V] 3,.agg (nH 6 table nS nS false) 31] (.aX [.agg [T,I,Z] 3,.agg [nS,nS,nS,zI c] 4,zI 0]))
  (hs:ae pG 10 [.agg [T,I,Z] 3,.agg (nH 8 [] nS (gA.ds [⟨table,[],nA⟩]) true) 31] (.aX [.agg [T,I,Z] 3,.agg [N,C,nS,zI 0] 4,zI 0]))
  (F:Fr)(K:Hp)(n:Nat)(G:acy table rows F)(k1:K.get 1=aG 3 [T,I,V])(k2:K.get 2=aG 4 [nS,nS,nS,zI (rows.length:Int)])(k3:K.get 3=aG 3 [T,I,V])(kt:cA K n)(n4:4<=n):
  VC pG (.seq VI (.seq VH (.seq VG .ret))) F K n [] (iO [aI 6] λ v1 H' _=>eY H'.get v1 (.bool true)):=by
 obtain⟨f1,f2,f7,f8,f10⟩:=G;simp only[nH]at hd hs;simp[VI,f7,k1,f1];refine aw.pure hd ?_;simp[hT,hV];generalize hF1:(Fp 17 _ _:Fr)=F1;have g1:F1.get 1=some (.str table):=by rw[<-hF1];simp[f1]
 have g2:F1.get 2=some (dA.ds rows):=by rw[<-hF1];simp[f2]
 have g7:F1.get 7=some (.ptr 1 0):=by rw[<-hF1];simp[f7]
 have g8:F1.get 8=some (.ptr 2 0):=by rw[<-hF1];simp[f8]
 have g10:F1.get 10=some (.ptr 3 0):=by rw[<-hF1];simp[f10]
 have g15:F1.get 15=some (.ptr n 0):=by rw[<-hF1];simp
 have g17:F1.get 17=some (zI 0):=by rw[<-hF1];simp
 clear hF1;generalize hK2:Tr.put _ (n+1) (some (br.cells 4 [] [nS,nS,nS,zI c] .nil))=K2;have old:∀b,b<n->K2.get b=K.get b:=λ b hb=>by rw[<-hK2,Tr.get_put,ah (by omega),Tr.get_put,ah (by omega),Tr.get_put,ah (by omega),Tr.get_put,ah (by omega)]
 have jn:K2.get n=aG 3 [T,I,Z]:=by rw[<-hK2];simp
 have jt:cA K2 (n+2):=λ b hb=>by rw[<-hK2];simp[show ¬b=n by omega,show ¬b=n+1 by omega,kt b (by omega)]
 have j1:=(old 1 (by omega)).trans k1;have j2:=(old 2 (by omega)).trans k2;have j3:=(old 3 (by omega)).trans k3;clear hK2 k1 k2 k3 kt old;simp[VH,g15,jn,g1];generalize hm:n+1+1=m;generalize hK3:Tr.put K2 m _=K3;have mm:K3.get m=aG 10 (Rb table):=by rw[<-hK3];simp[Rb]
 have old:∀b,b<m->K3.get b=K2.get b:=λ b hb=>by rw[<-hK3,Tr.get_put,ah (by omega)]
 have t3:cA K3 (m+1):=λ b hb=>by rw[<-hK3,Tr.get_put,ah (by omega)];exact jt b (by omega)
 have i1:=(old 1 (by omega)).trans j1;have i2:=(old 2 (by omega)).trans j2;have i3:=(old 3 (by omega)).trans j3;clear hK3 j1 j2 j3 jn jt old K2;generalize hF2:(Fp 85 _ _:Fr)=F2;have g1:F2.get 1=some (.str table):=by rw[<-hF2];simp[g1]
 have g2:F2.get 2=some (dA.ds rows):=by rw[<-hF2];simp[g2]
 have g7:F2.get 7=some (.ptr 1 0):=by rw[<-hF2];simp[g7]
 have g8:F2.get 8=some (.ptr 2 0):=by rw[<-hF2];simp[g8]
 have g10:F2.get 10=some (.ptr 3 0):=by rw[<-hF2];simp[g10]
 have g17:F2.get 17=some (zI 0):=by rw[<-hF2];simp[g17]
 clear hF2
 have hfz:eY (λ c=>if c=m then K3.get c else none) (.sl m 0 1 10) (gA.ds [⟨table,[],nA⟩]):=by
  obtain⟨u,z,bs,t',e,hg⟩:=(OwnB.list (u:=10) (l:=Rb table) rfl).fX (o:=0) (c:=1*10) (by simp[Rb]);injection e with a1 a2 a3 a4;subst a1 a2 a3 a4;refine .sl _ _ _ _ _ _ _ _ _ _ (by rw[ao rfl];exact mm) hg ?_;simp[Rb,gA,nA,Ex.cells,aL.l,Ex.bq];exact .cons _ _ _ _ fp (.cons _ _ _ _ fp (.cons _ _ _ _ fp (.cons _ _ _ _ fp (.cons _ _ _ _ fp (.cons _ _ _ _ fp (.cons _ _ _ _ fp (.cons _ _ _ _ fp (.cons _ _ _ _ fp (.cons _ _ _ _ (.nil 7) .nil)))))))))
 refine aw.of (acQ (ez.alr (Tr.nil:Fr) K3 m) (args':=[.agg [T,I,Z] 3,.agg [zI 8,.str [],.str [],nS,nS,.bool false,nS,nS,zI 0,zI 0,zI 0,.str [],.str [],.str [],zI 0,nS,.bool false,.bool true,nS,gA.ds [⟨table,[],nA⟩],zI 0,zI 0,zI 0,.str [],.str [],.str [],zI 0,nS,nS,.bool false,zI 0] 31]) ?_ (hs.jE _ _)) λ u K4 k ⟨hu,hK,hk⟩=>?_
 ·generalize gA.ds [⟨table,[],nA⟩]=sv at hfz ⊢;generalize (λ c=>if c=m then K3.get c else none)=hh at hfz ⊢;simp only[uS,ahE,and_true];refine⟨.inl rfl,.inr (.agg _ _ _ (nw.PZ ?_ ?_))⟩
  ·simp[FI,hfz]
  simp[hfz.mC]
 subst hu hK hk;simp[hT,hV,hN];generalize hF3:(Fp 20 _ _:Fr)=F3;have h2:F3.get 2=some (dA.ds rows):=by rw[<-hF3];simp[g2]
 have h7:F3.get 7=some (.ptr 1 0):=by rw[<-hF3];simp[g7]
 have h8:F3.get 8=some (.ptr 2 0):=by rw[<-hF3];simp[g8]
 have h10:F3.get 10=some (.ptr 3 0):=by rw[<-hF3];simp[g10]
 have h17:F3.get 17=some (zI 0):=by rw[<-hF3];simp[g17]
 have h19:F3.get 19=some (.ptr (m+1+1) 0):=by rw[<-hF3];simp
 have h20:F3.get 20=some (zI 0):=by rw[<-hF3];simp
 clear hF3;generalize hK5:Tr.put _ (m+1+1) (some (br.cells 4 [] [N,C,nS,zI 0] .nil))=K5;have old:∀b,b<m->K5.get b=K3.get b:=λ b hb=>by rw[<-hK5,Tr.get_put,ah (by omega),Tr.get_put,ah (by omega),Tr.get_put,ah (by omega),Tr.get_put,ah (by omega),Tr.get_put,ah (by omega)]
 have l1:=(old 1 (by omega)).trans i1;have l2:=(old 2 (by omega)).trans i2;have l3:=(old 3 (by omega)).trans i3;have lm:K5.get (m+1+1)=aG 4 [N,C,nS,zI 0]:=by rw[<-hK5];simp
 clear hK5;simp[VG,h8,l2,h2,aL.aD,h7,h10,l1,l3];refine aw.pure hsame ?_;simp[h17,h20,h19,lm];refine aw.pure hA ?_;simp;exact .bool rfl
theorem arb (hA:ae pG 13 [] (.bool true)) (w:jP) (hw:w.dz) (table:List Nat) (rows:List (List Ex)) (X:ma rows):ae pG 6 [fc.av w,.str table,dA.ds rows] (.bool true):=by
 refine pv c6 λ F hF=>?_;have h8:=ahr w hw;have hwv:fc.av w=.agg [aA.ds w.aO.tables,aQ.ds w.aO.indexes,dM.ds w.rows] 3:=Eq.trans rfl rfl;have hl:=X.l;unfold aM at hl;rw[hwv]at h8 hF;generalize hvR w.rows 0=hv at h8
 by_cases hb:hv=true∨50<rows.length
 ·simp[A6,hF];refine aw.pure h8 ?_
  cases hv with
  |true =>
   simp[aiN];refine aw.pure hA ?_;simp;exact .bool rfl
  |false =>
   have h50:(50:Int)<(rows.length:Int):=by have:=hb.resolve_left (by simp);omega
   simp[hF,aL.aD,h50,aiN];refine aw.pure hA ?_;simp;exact .bool rfl
 have hv0:hv=false:=by cases hv<;>simp_all
 have h50:rows.length<=50:=by omega
 have ams:¬(50:Int)<(rows.length:Int):=by omega
 subst hv0
 rcases jF.of hw X (by omega)with⟨e,he,ha⟩|⟨k,L0,O⟩
 ·have ha:=Ae ha (by simp);rw[hwv]at ha;simp only[nH]at ha;simp[A6,hF];refine aw.pure h8 ?_;simp[hF,aL.aD,ams,aiM];refine aw.pure ha ?_;simp[D8,resV,aiL,he,aou];refine aw.pure hA ?_;simp;exact .bool rfl
 have e1:∀i,fc.av (ui w table rows k L0 i)=.agg [aA.ds w.aO.tables,aQ.ds w.aO.indexes,dM.ds (ui w table rows k L0 i).rows] 3:=λ i=>Eq.trans rfl rfl;have e2:fc.av (ig w k [])=.agg [aA.ds w.aO.tables,aQ.ds w.aO.indexes,dM.ds (ig w k []).rows] 3:=Eq.trans rfl rfl;obtain⟨c,hd⟩:=O.del rows.length;obtain⟨N,C,pN,pC,oN,oC,hs⟩:=O.m6;have ha:=Ae O.all (by simp);have hd:=aaA hd (by simp);have hs:=aaz hs (by simp);have hc:=anr w hw
 have gw:∀i (h:i<rows.length),ae pG 10 [.agg [aA.ds w.aO.tables,aQ.ds w.aO.indexes,dM.ds (ui w table rows k L0 i).rows] 3,.agg (nH 5 table (dA.ds [rows[i]]) nS false) 31] (.aX [.agg [aA.ds w.aO.tables,aQ.ds w.aO.indexes,dM.ds (ui w table rows k L0 (i+1)).rows] 3,.agg [nS,nS,nS,zI 1] 4,zI 0]):=λ i h=>by
  have:=Ae (O.step h) (by simp)
  rwa [um,e1,e1]at this
 have hsm:=aaa (ui w table rows k L0 rows.length) (O.st rows.length).1;have h0:dM.ds w.rows=dM.ds (ui w table rows k L0 0).rows:=by rw[O.zero]
 rw[um,e1]at ha;rw[um,e1,e2]at hd;rw[um,e2]at hs;rw[e1]at hsm;rw[hwv]at ha hc;have hW:∀i,(dM.ds (ui w table rows k L0 i).rows).one=true:=λ i=>rfl;have hZ:(dM.ds (ig w k []).rows).one=true:=rfl;have hT:(aA.ds w.aO.tables).one=true/\(aQ.ds w.aO.indexes).one=true:=⟨rfl,rfl⟩;clear O e1 e2 hw hwv;generalize hWd:(λ i=>dM.ds (ui w table rows k L0 i).rows)=W at *;have hWi:∀i,dM.ds (ui w table rows k L0 i).rows=W i:=λ i=>by rw[<-hWd]
 simp only[hWi]at *;clear hWd hWi;generalize dM.ds (ig w k []).rows=Z at *;generalize dM.ds w.rows=W0 at *;subst h0;generalize aA.ds w.aO.tables=T at *;generalize aQ.ds w.aO.indexes=I at *;simp only[nH]at ha;simp[A6,hF];refine aw.pure h8 ?_;simp[hF,aL.aD,ams,aiM];refine aw.pure ha ?_;simp[aiL,aot,hT,hW];refine aw.pure hc ?_;simp[hT,hW];generalize hF1:(Fp 10 _ _:Fr)=F1;have f1:F1.get 1=some (.str table):=by rw[<-hF1];simp[hF]
 have f2:F1.get 2=some (dA.ds rows):=by rw[<-hF1];simp[hF]
 have f7:F1.get 7=some (.ptr 1 0):=by rw[<-hF1];simp
 have f8:F1.get 8=some (.ptr 2 0):=by rw[<-hF1];simp
 have f10:F1.get 10=some (.ptr 3 0):=by rw[<-hF1];simp
 clear hF1 hF F;generalize hK:Tr.put _ 3 (some (br.cells 3 [] [T,I,W 0] .nil))=K;have k1:K.get 1=aG 3 [T,I,W rows.length]:=by rw[<-hK];simp
 have k2:K.get 2=aG 4 [nS,nS,nS,zI (rows.length:Int)]:=by rw[<-hK];simp
 have k3:K.get 3=aG 3 [T,I,W 0]:=by rw[<-hK];simp
 have kt:cA K 4:=λ b hb=>by rw[<-hK];simp[show ¬b=0 by omega,show ¬b=1 by omega,show ¬b=2 by omega,show ¬b=3 by omega]
 clear hK;simp[aos];refine alu T I hT W hW table rows h50 gw _ _ _ _ (by simp) ⟨by simp[f1],by simp[f2],by simp[f7],by simp[f8],by simp[f10]⟩ ⟨k1,k2,k3,kt,by omega⟩ λ F' K' n' G M=>?_;show VC _ _ _ _ _ _ _;exact als hA T I hT (W rows.length) Z ⟨hW _,hZ⟩ N C ⟨oN,oC⟩ c table rows hsm hd hs F' K' n' G M.k1 M.k2 M.k3 M.kt M.n4
end Go.Abs
