/- A part. -/
import Derived.Test.YtlhafglnokpioaaGreatBt12
noncomputable section
namespace Go.Abs
open List
open Go.Proofs
open Classical
set_option maxRecDepth 100000
def sg (k1 k2:Nat)(i:Int):Int:=if i<(k1:Int)then i+(k2:Int)else i - (k1:Int)
theorem Jn {x y:List Nat}{t1 t2:bK}(t m:List Nat):fR [y,x] [t2,t1] t m=(if (fR [x,y] [t1,t2] t m).2=0 then sg t1.cols.length t2.cols.length (fR [x,y] [t1,t2] t m).1 else (fR [x,y] [t1,t2] t m).1,(fR [x,y] [t1,t2] t m).2):=by
 have i1:=Dz (λ c:oS=>decide (c.name=m)) t1.cols;have i2:=Dz (λ c:oS=>decide (c.name=m)) t2.cols;unfold fR;simp only[zip_cons_cons,zip_nil_right,gw];generalize kN (λ c:oS=>decide (c.name=m)) t1.cols=a at *;generalize kN (λ c:oS=>decide (c.name=m)) t2.cols=b at *
 by_cases h1:(t=[]∨x=t)/\0<=a
 ·by_cases h2:(t=[]∨y=t)/\0<=b
  ·simp[h1,h2]
  have e:sg t1.cols.length t2.cols.length a=(t2.cols.length:Int)+a:=by unfold sg;rw[aw i1];omega
  simp[h1,h2,e,show 0<=(t2.cols.length:Int)+a by omega]
 by_cases h2:(t=[]∨y=t)/\0<=b
 ·have e:sg t1.cols.length t2.cols.length ((t1.cols.length:Int)+b)=b:=by unfold sg;rw[ai ae];omega
  simp[h1,h2,e,show 0<=(t1.cols.length:Int)+b by omega]
 simp only[h1,h2,if_false,show ¬(0:Int) <= -1 by omega,Bool.false_or];generalize decide (t=[]∨x=t)=p;generalize decide (t=[]∨y=t)=q
 by_cases ht:t=[]<;>cases p<;>cases q<;>simp[ht]
theorem JC {t1 t2:bK}{i:Int}(h0:0<=i)(h:i<((aF [t1,t2]).length:Int)):(aF [t2,t1]).getD (sg t1.cols.length t2.cols.length i).toNat 0=(aF [t1,t2]).getD i.toNat 0/\i<((t1.cols.length+t2.cols.length:Nat):Int):=by
 have hl:∀t:bK,t.kinds.length=t.cols.length:=λ t=>by simp[bK.kinds]
 have e:∀a b:bK,aF [a,b]=a.kinds++b.kinds:=λ a b=>by simp[aF]
 rw[e]at h;rw[e,e];simp only[length_append,hl]at h;refine⟨?_,h⟩;obtain⟨n,rfl⟩:∃n:Nat,i=(n:Int):=⟨i.toNat,ae⟩;unfold sg;simp only[getD]
 by_cases c:n<t1.cols.length
 ·rw[aw ae,show ((n:Int)+(t2.cols.length:Int)).toNat=n+t2.cols.length by omega,getElem?_append_right (by rw[hl];omega),hl,Nat.add_sub_cancel];simp only[Int.toNat_natCast];rw[getElem?_append_left (by rw[hl];exact c)]
 rw[ai ae,show ((n:Int) - (t1.cols.length:Int)).toNat=n - t1.cols.length by omega,getElem?_append_left (by rw[hl];omega)];simp only[Int.toNat_natCast];rw[getElem?_append_right (by rw[hl];omega),hl]
mutual
def Ex.Gn (σ:Int->Int):Ex->Ex
 |.mk op v t m cG args=>.mk op v t m (if op=3 then σ cG else cG) (Ex.iw σ args)
def Ex.iw (σ:Int->Int):List Ex->List Ex
 |[]=>[]
 |e::r=>e.Gn σ::Ex.iw σ r
end
mutual
def Ex.Dy (n:Int):Ex->Prop
 |.mk op _ _ _ cG args=>(op=3->0<=cG/\cG<n)/\Ex.kL n args
def Ex.kL (n:Int):List Ex->Prop
 |[]=>True
 |e::r=>e.Dy n/\Ex.kL n r
end
theorem Ex.yd (σ:Int->Int):∀l:List Ex,Ex.iw σ l=l.map (Ex.Gn σ)
 |[]=>rfl
 |e::r=>by simp[Ex.iw,Ex.yd σ r]
section
variable {x y:List Nat}{t1 t2:bK}
mutual
theorem Ex.PZ:∀(e:Ex) (err:Int),e.may=true->e.bd [y,x] [t2,t1] err=((e.bd [x,y] [t1,t2] err).1.Gn (sg t1.cols.length t2.cols.length),(e.bd [x,y] [t1,t2] err).2.1,(e.bd [x,y] [t1,t2] err).2.2)/\(e.bd [x,y] [t1,t2] err).1.Dy ((t1.cols.length+t2.cols.length:Nat):Int)
 |.mk op v t m cG args,err,h=>by
  unfold Ex.may at h
  by_cases h1:op=1
  ·rw[aw h1]at h;simp at h;obtain⟨⟨_,_,_,ha⟩,_⟩:=h;subst ha h1;unfold Ex.bd;simp[Ex.Gn,Ex.iw,Ex.Dy,Ex.kL]
  rw[ai h1]at h
  by_cases h2:op=2
  ·rw[aw h2]at h;simp at h;have ha:=h.2.2.2.2;subst ha h2;have hp:=Jn (x:=x) (y:=y) (t1:=t1) (t2:=t2) t m;have hlt:=AY (ns:=[x,y]) (ts:=[t1,t2]) ah (table:=t) (name:=m);unfold Ex.bd;rw[hp];simp only[if_true]
   by_cases h0:(fR [x,y] [t1,t2] t m).2=0
   ·have hr:=hlt h0;have hk:=JC hr.1 hr.2;simp only[h0,if_true,Ex.Gn,Ex.iw,Ex.Dy,Ex.kL,hk.1];exact⟨trivial,λ _=>⟨hr.1,hk.2⟩,trivial⟩
   simp[h0,Ex.Gn,Ex.iw,Ex.Dy,Ex.kL]
  rw[ai h2]at h;simp only[dS,decide_eq_true_eq]at h;have ih:=Ex.Ik args err h.2.2.2;unfold Ex.bd;rw[ai h2,ai h1,ai h2,ai h1,ih.1];simp only[Ex.Gn,Ex.Dy];refine⟨?_,λ h3=>ae,ih.2⟩;rw[ai ae]
theorem Ex.Ik:∀(l:List Ex)(err:Int),Ex.uN l=true->Ex.lS [y,x] [t2,t1] l err=(Ex.iw (sg t1.cols.length t2.cols.length) (Ex.lS [x,y] [t1,t2] l err).1,(Ex.lS [x,y] [t1,t2] l err).2.1,(Ex.lS [x,y] [t1,t2] l err).2.2)/\Ex.kL ((t1.cols.length+t2.cols.length:Nat):Int) (Ex.lS [x,y] [t1,t2] l err).1
 |[],err,_=>by simp[Ex.lS,Ex.iw,Ex.kL]
 |e::r,err,h=>by
  simp only[Ex.uN,dS]at h;have i1:=Ex.PZ e err h.1;have i2:=Ex.Ik r (e.bd [x,y] [t1,t2] err).2.2 h.2;unfold Ex.lS;rw[i1.1];simp only[i2.1,Ex.iw,Ex.kL];exact⟨trivial,i1.2,i2.2⟩
end
end
end Go.Abs
namespace Go.Abs
open List
open Go.Proofs
open Classical
set_option maxRecDepth 100000
theorem GL (σ:Int->Int)(l:List Ex):(Ex.iw σ l).length=l.length:=by rw[Ex.yd,length_map]
theorem Yd {n:Int}{l m:List Ex}(h1:Ex.kL n l)(h2:Ex.kL n m):Ex.kL n (l++m):=by
 induction l with
 |nil=>exact h2
 |cons e r ih=>unfold Ex.kL at h1;exact⟨h1.1,ih h1.2⟩
mutual
theorem ae8 {σ:Int->Int}{n:Int}(hσ:∀i,0<=i->i<n->0<=σ i/\σ i<n):∀e:Ex,e.Dy n->(e.Gn σ).vL n=e.vL n
 |.mk op v t m cG args,h=>by
  unfold Ex.Dy at h;unfold Ex.Gn Ex.vL;rw[GL,Dc hσ args h.2]
  by_cases h3:op=3
  ·have h1:=h.1 h3;have h2:=hσ cG h1.1 h1.2;simp[h3,show ¬cG<0 by omega,show ¬n<=cG by omega,show ¬ σ cG<0 by omega,show ¬n<=σ cG by omega]
  simp[h3]
theorem Dc {σ:Int->Int}{n:Int}(hσ:∀i,0<=i->i<n->0<=σ i/\σ i<n):∀l:List Ex,Ex.kL n l->Ex.Bj n (Ex.iw σ l)=Ex.Bj n l
 |[],_=>rfl
 |e::r,h=>by
  unfold Ex.kL at h;unfold Ex.iw Ex.Bj;rw[ae8 hσ e h.1,Dc hσ r h.2]
end
mutual
theorem YF {σ:Int->Int}{n:Int}{row row':List Val}(hr:∀i:Int,0<=i->i<n->row'.getD (σ i).toNat f_=row.getD i.toNat f_):∀e:Ex,e.Dy n->(e.Gn σ).ev row'=e.ev row
 |.mk op v t m cG args,h=>by
  unfold Ex.Dy at h;unfold Ex.Gn Ex.ev;rw[PG hr args h.2]
  by_cases h3:op=3
  ·have h1:=h.1 h3;simpa[h3]using hr cG h1.1 h1.2
  simp[h3]
theorem PG {σ:Int->Int}{n:Int}{row row':List Val}(hr:∀i:Int,0<=i->i<n->row'.getD (σ i).toNat f_=row.getD i.toNat f_):∀l:List Ex,Ex.kL n l->Ex.YJ row' (Ex.iw σ l)=Ex.YJ row l
 |[],_=>rfl
 |e::r,h=>by
  unfold Ex.kL at h;unfold Ex.iw Ex.YJ;rw[YF hr e h.1,PG hr r h.2]
end
theorem uG {σ:Int->Int}{n:Int}:∀(N:Nat) (e:Ex),e.sz<=N->e.Dy n->(e.Gn σ).split=Ex.iw σ e.split/\Ex.kL n e.split
 |0,e,hn,_=>by have:=e.ny;omega
 |N + 1,.mk op v t m cG args,hn,h=>by
  by_cases hs:op=20/\args.length=2
  ·obtain⟨rfl,hl⟩:=hs
   match args,hl with
   |[a,b],_ =>
    simp[Ex.sz,Ex.rL]at hn;simp only[Ex.Dy,Ex.kL]at h;have ia:=uG (σ:=σ) N a ae h.2.1;have ib:=uG (σ:=σ) N b ae h.2.2.1;have e1:(Ex.mk 20 v t m cG [a,b]).Gn σ=.mk 20 v t m cG [a.Gn σ,b.Gn σ]:=by simp[Ex.Gn,Ex.iw]
    rw[e1,Ex.qu,Ex.qu,ia.1,ib.1];refine⟨?_,Yd ia.2 ib.2⟩;simp[Ex.yd]
  rw[Ex.qt hs];unfold Ex.Gn;rw[Ex.qt (by rw[GL];exact hs)];exact⟨by simp[Ex.iw,Ex.Gn],h,trivial⟩
theorem BB {σ:Int->Int}{n:Int}{row row':List Val}(hr:∀i:Int,0<=i->i<n->row'.getD (σ i).toNat f_=row.getD i.toNat f_):∀l:List Ex,Ex.kL n l->holdL row' (Ex.iw σ l)=holdL row l
 |[],_=>rfl
 |e::r,h=>by
  unfold Ex.kL at h;unfold Ex.iw holdL;rw[YF hr e h.1,BB hr r h.2]
theorem aoE {k1 k2:Nat}{i:Int}(h0:0<=i)(h:i<((k1+k2:Nat):Int)):0<=sg k1 k2 i/\sg k1 k2 i<((k1+k2:Nat):Int):=by
 unfold sg
 split<;>omega
theorem ajL {a b:List Val}{i:Int}(h0:0<=i)(h:i<((a.length+b.length:Nat):Int)):(b++a).getD (sg a.length b.length i).toNat f_=(a++b).getD i.toNat f_:=by
 obtain⟨n,rfl⟩:∃n:Nat,i=(n:Int):=⟨i.toNat,ae⟩;unfold sg;simp only[getD]
 by_cases c:n<a.length
 ·rw[aw ae,show ((n:Int)+(b.length:Int)).toNat=n+b.length by omega,getElem?_append_right ae,Nat.add_sub_cancel];simp only[Int.toNat_natCast];rw[getElem?_append_left c]
 rw[ai ae,show ((n:Int) - (a.length:Int)).toNat=n - a.length by omega,getElem?_append_left ae];simp only[Int.toNat_natCast];rw[getElem?_append_right ae]
theorem Hy {a b:List Val}{k1 k2:Nat}(h1:a.length=k1)(h2:b.length=k2){l:List Ex}(h:Ex.kL ((k1+k2:Nat):Int) l):dX (b++a) (Ex.iw (sg k1 k2) l)=dX (a++b) l:=by
 subst h1 h2;unfold dX;have e1:(b++a).length=(a++b).length:=by simp;omega
 have e2:(b++a).all Val.may=(a++b).all Val.may:=by simp[Bool.and_comm]
 have e3:((a++b).length:Int)=((a.length+b.length:Nat):Int):=ah;rw[e1,e2,e3,Dc (λ i=>aoE) l h,BB (λ i=>ajL) l h]
def evS (it:List Ex)(s:uo)(x:(Bool×Int)×List Val):uo:=if x.1.1=true then rQ [] it {s with acc:=gQ s.acc x.1.2} x.2 else {s with acc:=gQ s.acc x.1.2}
def BI (it:List Ex):List ((Bool×Int)×List Val)->uo->uo
 |[],s=>s
 |x::r,s=>if (evS it s x).go=true then BI it r (evS it s x)else evS it s x
theorem PH (it:List Ex):∀(a b:List ((Bool×Int)×List Val)) (s:uo),BI it (a++b) s=if a=[]then BI it b s else if (BI it a s).go=true then BI it b (BI it a s)else BI it a s
 |[],b,s=>ah
 |x :: r,b,s=>by
  rw[cons_append,BI,BI,ai (show ¬x::r=[] by simp)]
  by_cases h:(evS it s x).go=true
  ·rw[aw h,aw h,PH it r b]
   by_cases hr:r=[]
   ·subst hr;simp[BI,h]
   rw[ai hr]
  rw[ai h,ai h,ai h]
def sP (C:List Ex)(r1:List Val)(L2:List (List Val)):List ((Bool×Int)×List Val):=L2.map λ r2=>(dX (r1++r2) C,r1++r2)
theorem Ot {K:Cons uo}(hE:K.E=λ s e=>{s with acc:=gQ s.acc e})(hg:K.go=uo.go){it:List Ex}(hY:K.Y=rQ [] it)(C:List Ex)(r1:List Val):∀(L2:List (List Val))(s:uo),s.go=true->cH K C r1 L2 s=BI it (sP C r1 L2) s
 |[],s,_=>rfl
 |r2::r,s,h=>by
  have ih:=Ot hE hg hY C r1 r;unfold sP at ih ⊢;rw[map_cons,BI];unfold cH evS;simp only[hE,hY,hg]
  by_cases h1:(dX (r1++r2) C).1=true
  ·simp only[h1,if_true]
   split
   ·rename_i h2;exact ih _ h2
   rfl
  rw[ai h1,ai h1,aw (show (uo.mk s.rows (gQ s.acc (dX (r1++r2) C).2) s.go).go=true from h)];exact ih _ h
theorem GF {K:Cons uo}(hE:K.E=λ s e=>{s with acc:=gQ s.acc e}) (hg:K.go=uo.go){it:List Ex}{C:List Ex}{L2:List (List Val)}(hY:∀s r1,s.go=true->K.Y s r1=BI it (sP C r1 L2) s):∀(L1:List (List Val)) (s:uo),(∀r∈L1,eI r)->s.go=true->cH K [] [] L1 s=BI it (L1.flatMap λ r1=>sP C r1 L2) s
 |[],s,_,_=>rfl
 |r1::r,s,hm,h=>by
  have ih:=GF hE hg hY r;have h0:=holds_nil (hm r1 ah);rw[flatMap_cons,PH];unfold cH;simp only[nil_append,h0,hE,Bq,hg,if_true];rw[hY _ _ h]
  by_cases he:sP C r1 L2=[]
  ·rw[aw he,he];rw[show BI it [] s=s from rfl,aw h];exact ih s (λ x hx=>hm x (by simp[hx])) h
  rw[ai he]
  split
  ·rename_i h2;exact ih _ (λ x hx=>hm x (by simp[hx])) h2
  rfl
theorem GU {C it:List Ex}{L1 L2:List (List Val)}(hm:∀r∈L1,eI r):jJ [[],C] [L1,L2] [] it 2=BI it (L1.flatMap λ r1=>sP C r1 L2) ⟨[],0,true⟩:=by
 unfold jJ pJ;simp only[pJ];exact GF rfl rfl (λ s r1 hs=>Ot rfl rfl rfl C r1 L2 s hs) L1 _ hm rfl
def jl (L:List ((Bool×Int)×List Val)):List (List Val):=(L.filter (·.1.1)).map (·.2)
def wJ (L:List ((Bool×Int)×List Val))(a:Int):Int:=L.foldl (λ a x=>gQ a x.1.2) a
theorem aq0 {it:List Ex}{s:uo}{x:(Bool×Int)×List Val}(hs:s.go=true) (hx:eI x.2) (hv:x.1.1=true->eG x.2 it=x.2/\∀e∈it,(jo x.2 e).2=0) (hl:s.rows.length<4096):
  evS it s x=⟨s.rows++(if x.1.1=true then [x.2]else []),gQ s.acc x.1.2,true⟩:=by
 unfold evS
 by_cases h:x.1.1=true
 ·rw[aw h,aw h];have h0:=holds_nil hx
  have herr:∀(l:List Ex) (a:Int),(∀e∈l,(jo x.2 e).2=0)->rj x.2 l a=a:=by
   intro l
   induction l with
   |nil=>intro a _;rfl
   |cons e r ih =>
    intro a h;show rj x.2 r (gQ a (jo x.2 e).2)=a;rw[h e ah,Bq];exact ih a λ e he=>h e (by simp[he])
  unfold rQ;rw[h0];simp only[if_true];rw[ai ae];simp only[Bq,(hv h).1,herr it _ (hv h).2,hs]
 rw[ai h,ai h];simp[hs]
theorem YH {it:List Ex}{s:uo}{x:(Bool×Int)×List Val}(hx:eI x.2)(hl:s.rows.length=4096):evS it s x=⟨s.rows,gQ s.acc x.1.2,if x.1.1=true then false else s.go⟩:=by
 unfold evS
 by_cases h:x.1.1=true
 ·rw[aw h,aw h];have h0:=holds_nil hx;unfold rQ;rw[h0];simp only[if_true];rw[aw hl,Bq]
 rw[ai h,ai h]
theorem JQ {it:List Ex}:∀(L:List ((Bool×Int)×List Val)) (s:uo),s.go=true->s.rows.length<=4096->(∀x∈L,eI x.2/\eG x.2 it=x.2/\∀e∈it,(jo x.2 e).2=0) ->
  (s.rows.length+(jl L).length<=4096->BI it L s=⟨s.rows++jl L,wJ L s.acc,true⟩)/\(4096<s.rows.length+(jl L).length->(BI it L s).go=false)
 |[],s,hs,hl,_=>by
  obtain⟨r,a,g⟩:=s;simp only at hs hl;subst hs;refine⟨λ _=>by simp[BI,jl,wJ],λ h=>?_⟩;simp[jl]at h;omega
 |x :: r,s,hs,hl,hm=>by
  have hx:=hm x ah;have ih:=λ s'=>JQ (it:=it) r s';have hmr:∀y∈r,eI y.2/\eG y.2 it=y.2/\∀e∈it,(jo y.2 e).2=0:=λ y hy=>hm y (by simp[hy])
  have hh:jl (x::r)=(if x.1.1=true then [x.2]else [])++jl r:=by
   unfold jl;rw[filter_cons]
   split<;>simp
  have ha:wJ (x::r) s.acc=wJ r (gQ s.acc x.1.2):=rfl;rw[BI,hh,ha]
  by_cases hf:s.rows.length=4096
  ·rw[YH hx.1 hf]
   by_cases h1:x.1.1=true
   ·simp[h1,hf]
   simp only[h1,hs];have:=ih ⟨s.rows,gQ s.acc x.1.2,true⟩ rfl hl hmr;simpa using this
  rw[aq0 hs hx.1 (λ _=>hx.2) ae];simp only[if_true];have:=ih ⟨s.rows++(if x.1.1=true then [x.2]else []),gQ s.acc x.1.2,true⟩ rfl (by simp only[length_append];split<;>simp<;>omega) hmr;simp only[length_append,append_assoc]at this ⊢;rw[<-Nat.add_assoc];exact this
theorem XT (a b c:Int):gQ (gQ a b) c=gQ (gQ a c) b:=by
 unfold gQ
 by_cases h1:a=0<;>by_cases h2:b=0<;>by_cases h3:c=0<;>simp only[h1,h2,h3,if_true,if_false]<;>(simp only[Int.min_def];repeat' split)<;>omega
theorem U6 {L M:List ((Bool×Int)×List Val)}(h:L.Perm M):∀a,wJ L a=wJ M a:=by
 intro a;unfold wJ;exact h.foldl_eq' (λ x _ y _ z=>XT z x.1.2 y.1.2) a
theorem fmC {α β:Type}{f g:α->List β}:∀ {L:List α},(∀a∈L,f a=g a)->L.flatMap f=L.flatMap g
 |[],_=>rfl
 |a::r,h=>by rw[flatMap_cons,flatMap_cons,h a ah,fmC λ x hx=>h x (by simp[hx])]
theorem AH {β γ:Type}(g:β->γ)(h:β->List γ):∀M:List β,(M.flatMap λ b=>g b::h b).Perm (M.map g++M.flatMap h)
 |[]=>.refl _
 |b::r=>by
  simp only[flatMap_cons,map_cons,cons_append];refine .cons _ ?_;refine((AH g h r).append_left (h b)).trans ?_;rw[<-append_assoc,<-append_assoc];exact perm_append_comm.append_right _
theorem swap_perm {α β γ:Type}(f:α->β->γ)(M:List β):∀L:List α,(M.flatMap λ b=>L.map λ a=>f a b).Perm (L.flatMap λ a=>M.map (f a))
 |[]=>ah
 |a::r=>by
  simp only[flatMap_cons,map_cons];exact(AH (f a) (λ b=>r.map λ a=>f a b) M).trans ((swap_perm f M r).append_left _)
theorem PM {row:List Val}{i:Nat}(h:i<row.length)(hm:eI row):jo row (D4 i)=(row[i],0):=by
 unfold jo;have e:row.all Val.may=true:=all_eq_true.2 λ v hv=>hm v hv
 have ok:(D4 i).vL (row.length:Int)=true:=by
  simp[D4,Ex.vL,Ex.Bj,rU,h]
 rw[aw ok,aw e];simp[D4,Ex.ev,h]
theorem af7 {row:List Val}{k:Nat}(h:row.length=k)(hm:eI row):eG row (eH k)=row/\∀e∈eH k,(jo row e).2=0:=by
 subst h;constructor
 ·refine ext_getElem (by simp[eG]) λ i h1 h2=>?_;simp[eG,eH,PM h2 hm]
 intro e he;obtain⟨i,hi,rfl⟩:=mem_map.1 he;rw[PM (by simpa using hi) hm]
def VA (k:Nat)(x:(Bool×Int)×List Val):(Bool×Int)×List Val:=(x.1,x.2.drop k++x.2.take k)
theorem Vz {a b:List Val}(p:Bool×Int):VA a.length (p,a++b)=(p,b++a):=by simp[VA]
theorem YI {C:List Ex}{L1 L2:List (List Val)}{k1 k2:Nat}(h1:∀r∈L1,r.length=k1)(h2:∀r∈L2,r.length=k2)(hC:Ex.kL ((k1+k2:Nat):Int) C):
  (L2.flatMap λ r2=>sP (Ex.iw (sg k1 k2) C) r2 L1).Perm ((L1.flatMap λ r1=>sP C r1 L2).map (VA k1)):=by
 have e:(L2.flatMap λ r2=>sP (Ex.iw (sg k1 k2) C) r2 L1)=L2.flatMap λ r2=>L1.map λ r1=>(dX (r1++r2) C,r2++r1):=by
  unfold sP;refine fmC ?_;intro r2 hr2;refine map_congr_left λ r1 hr1=>?_;rw[Hy (h1 r1 hr1) (h2 r2 hr2) hC]
 rw[e];refine(swap_perm (λ r1 r2=>(dX (r1++r2) C,r2++r1)) L2 L1).trans (.of_eq ?_);rw[map_flatMap];refine fmC ?_;intro r1 hr1;unfold sP;rw[map_map];refine map_congr_left λ r2 hr2=>?_;have:=h1 r1 hr1;subst this;exact(Vz _).symm
theorem Yp (k:Nat)(L:List ((Bool×Int)×List Val)):jl (L.map (VA k))=(jl L).map λ r=>r.drop k++r.take k:=by
 unfold jl;rw[filter_map,map_map,map_map];rfl
theorem UB {L M:List ((Bool×Int)×List Val)}(h:L.Perm M):(jl L).Perm (jl M):=(h.filter _).map _
theorem Zt (k:Nat)(L:List ((Bool×Int)×List Val))(a:Int):wJ (L.map (VA k)) a=wJ L a:=by
 unfold wJ;rw[foldl_map];rfl
theorem Vy {C:List Ex}{L1 L2:List (List Val)}{k1 k2:Nat}(h1:∀r∈L1,eI r/\r.length=k1)(h2:∀r∈L2,eI r/\r.length=k2)(hC:Ex.kL ((k1+k2:Nat):Int) C):
  tG (jJ [[],C] [L1,L2] [] (eH (k1+k2)) 2)=tG (jJ [[],Ex.iw (sg k1 k2) C] [L2,L1] [] (eH (k1+k2)) 2) /\
  (tG (jJ [[],C] [L1,L2] [] (eH (k1+k2)) 2)=0->((jJ [[],Ex.iw (sg k1 k2) C] [L2,L1] [] (eH (k1+k2)) 2).rows.map λ r=>r.drop k2++r.take k2).Perm (jJ [[],C] [L1,L2] [] (eH (k1+k2)) 2).rows):=by
 rw[GU λ r hr=>(h1 r hr).1,GU λ r hr=>(h2 r hr).1];have hp:=YI (λ r hr=>(h1 r hr).2) (λ r hr=>(h2 r hr).2) hC
 have ok:∀ {D:List Ex} {M1 M2:List (List Val)},(∀r∈M1,∀u∈M2,eI (r++u)/\(r++u).length=k1+k2)->∀x∈M1.flatMap λ r1=>sP D r1 M2,eI x.2/\eG x.2 (eH (k1+k2))=x.2/\∀e∈eH (k1+k2),(jo x.2 e).2=0:=λ h x hx=>by
  obtain⟨r,hr,hx⟩:=mem_flatMap.1 hx;obtain⟨u,hu,rfl⟩:=mem_map.1 hx;obtain⟨q1,q2⟩:=h r hr u hu;exact⟨q1,af7 q2 q1⟩
 have ma:∀ {r u:List Val},eI r->eI u->eI (r++u):=λ a b v hv=>(mem_append.1 hv).elim (a v) (b v);have okA:=ok (D:=C) (M1:=L1) (M2:=L2) λ r hr u hu=>⟨ma (h1 r hr).1 (h2 u hu).1,by rw[length_append,(h1 r hr).2,(h2 u hu).2]⟩;have okB:=ok (D:=Ex.iw (sg k1 k2) C) (M1:=L2) (M2:=L1) λ r hr u hu=>⟨ma (h2 r hr).1 (h1 u hu).1,by rw[length_append,(h2 r hr).2,(h1 u hu).2];omega⟩
 have hlen:∀x∈L1.flatMap λ r1=>sP C r1 L2,∃a b:List Val,a.length=k1/\b.length=k2/\x.2=a++b:=λ x hx=>by
  obtain⟨r,hr,hx⟩:=mem_flatMap.1 hx;obtain⟨u,hu,rfl⟩:=mem_map.1 hx;exact⟨r,u,(h1 r hr).2,(h2 u hu).2,rfl⟩
 generalize (L1.flatMap λ r1=>sP C r1 L2)=A at *;generalize (L2.flatMap λ r2=>sP (Ex.iw (sg k1 k2) C) r2 L1)=B at *;have eA:=JQ A ⟨[],0,true⟩ rfl ah okA;have eB:=JQ B ⟨[],0,true⟩ rfl ah okB
 have hh:(jl B).Perm ((jl A).map λ r=>r.drop k1++r.take k1):=by
  rw[<-Yp];exact UB hp
 have hl:(jl B).length=(jl A).length:=by rw[hh.length_eq,length_map]
 have ha:wJ B 0=wJ A 0:=by rw[U6 hp,Zt]
 simp only[length_nil,q7,nil_append,hl]at eA eB
 by_cases hc:(jl A).length<=4096
 ·rw[eA.1 hc,eB.1 hc,ha];refine⟨rfl,λ _=>?_⟩;refine(hh.map _).trans (.of_eq ?_);rw[map_map];refine(map_congr_left λ r hr=>?_).trans (map_id _);obtain⟨x,hx,rfl⟩:=mem_map.1 hr;obtain⟨a,b,q1,q2,q3⟩:=hlen x (mem_filter.1 hx).1;subst q1 q2;simp[q3]
 have gA:=eA.2 ae;have gB:=eB.2 ae;unfold tG;rw[gA,gB];exact⟨rfl,λ h=>by simp at h⟩
end Go.Abs
namespace Go.Abs
open List
open Go.Proofs
open Classical
set_option maxRecDepth 100000
def qJ (a b:List Nat)(x y:Nat)(on:Ex):bI:=⟨false,true,[],[⟨a,[x],wE⟩,⟨b,[y],on⟩],wE,[],false,0⟩
theorem Tn (a b:List Nat)(x y:Nat)(on:Ex):(qJ a b x y on).may=true↔(bQ a/\bQ [x])/\(bQ b/\bQ [y])/\on.may=true:=by
 have hz:wE.maybe=true:=by simp[Ex.maybe,wE,Ex.bare]
 have hb:wE.bare 0:=by simp[wE,Ex.bare]
 simp[bI.may,qJ,hz,ju,Src.ok,hb,and_assoc]
theorem adM (a b:List Nat)(x y:Nat)(on:Ex):(qJ a b x y on).may=true↔(qJ b a y x on).may=true:=by
 rw[Tn,Tn];exact⟨λ⟨h1,h2,h3⟩=>⟨h2,h1,h3⟩,λ⟨h1,h2,h3⟩=>⟨h2,h1,h3⟩⟩
section
variable {s:cn}{a b:List Nat}{x y:Nat}{on:Ex}
theorem aje (h:x≠y):kH s (qJ a b x y on).ao (qJ a b x y on).ao.length 0=if (s.named a).2=true/\(s.named b).2=true then 0 else 200:=by
 have e:¬ [y]=[x]:=λ e=>h (by injection e with e _;exact e.symm)
 cases h1:(s.named a).2<;>cases h2:(s.named b).2<;>simp[qJ,kH,rz,h1,h2,keep,Src.nm,e]
def cJ (s:cn)(a b:List Nat)(x y:Nat)(on:Ex):List Ex×Int:=dU [[x],[y]] [(s.named a).1,(s.named b).1] on 0
theorem amQ:onQ s (qJ a b x y on)=([[],(cJ s a b x y on).1],(cJ s a b x y on).2):=by
 have hb:wE.bare 0:=by simp[wE,Ex.bare]
 unfold onQ;simp[qJ,qB,rz,Src.nm,cn.tb,dU,hb,cJ]
theorem amR:Uy s (qJ a b x y on)=(eH (aF [(s.named a).1,(s.named b).1]).length,namesT [(s.named a).1,(s.named b).1],aF [(s.named a).1,(s.named b).1],keep (cJ s a b x y on).2 3 (decide ((16:Int)<((aF [(s.named a).1,(s.named b).1]).length:Int)))):=by
 unfold Uy;rw[amQ];simp[qJ,cg,uP,cn.tb,keep]
theorem asB:cdQ s (qJ a b x y on) (qJ a b x y on).cond=([],keep (cJ s a b x y on).2 3 (decide ((16:Int)<((aF [(s.named a).1,(s.named b).1]).length:Int)))):=by
 have hb:wE.bare 0:=by simp[wE,Ex.bare]
 unfold cdQ;rw[amR];show dU _ _ wE _=_;simp[dU,hb]
theorem adN (h:x≠y):(bN s (eO (qJ a b x y on))).2=if eW s/\(qJ a b x y on).may=true then (if (s.named a).2=true/\(s.named b).2=true then keep (cJ s a b x y on).2 3 (decide ((16:Int)<((aF [(s.named a).1,(s.named b).1]).length:Int)))else 200)else 1:=by
 have hs:=aje (s:=s) (a:=a) (b:=b) (on:=on) h;have hb:vZ s (eO (qJ a b x y on))=fQ s (qJ a b x y on) 8 0:=rfl;have fin:∀r:oH×Int,(Ag r).2=r.2:=λ r=>by unfold Ag;split<;>rfl
 unfold bN;rw[xT,hb]
 by_cases h1:eW s/\(qJ a b x y on).may=true
 ·rw[aw h1,aw h1,fin]
  by_cases h2:(s.named a).2=true/\(s.named b).2=true
  ·rw[aw h2]at hs ⊢;rw[AU rfl hs,asB]
  rw[ai h2]at hs ⊢;unfold fQ;rw[aw (by rw[hs];omega),hs]
 rw[ai h1,ai h1]
theorem nO (t u:bK):(aF [t,u]).length=t.cols.length+u.cols.length:=by simp[aF,bK.kinds]
theorem PV (hm:on.may=true):cJ s b a y x on=(Ex.iw (sg (s.named a).1.cols.length (s.named b).1.cols.length) (cJ s a b x y on).1,(cJ s a b x y on).2)/\Ex.kL (((s.named a).1.cols.length+(s.named b).1.cols.length:Nat):Int) (cJ s a b x y on).1:=by
 have hnb:¬on.bare 0:=λ h=>Ex.XM hm (by unfold Ex.bare at h;cases on;simp at h;exact h.1);obtain⟨h1,h2⟩:=Ex.PZ (x:=[x]) (y:=[y]) (t1:=(s.named a).1) (t2:=(s.named b).1) on 0 hm;obtain⟨h3,h4⟩:=uG (σ:=sg (s.named a).1.cols.length (s.named b).1.cols.length) _ _ (aK _) h2;unfold cJ dU;rw[ai hnb,ai hnb,h1];exact⟨by rw[h3],h4⟩
end
theorem N9 {w:pe}(ok:fW w)(hg:w.aL.nD){name:List Nat}(h:(w.aL.named name).2=true):∀r∈w.rows.getD (D9 w.aL (w.aL.named name).1.id).toNat [],eI r/\r.length=(w.aL.named name).1.cols.length:=by
 obtain⟨k,hk,h1,h2⟩:=ok.s.at hg (yD h);have hk':k<w.rows.length:=by rw[ok.l];exact hk
 rw[h2,Int.toNat_natCast,getD_eq_getElem?_getD,cX hk',Option.getD_some];intro r hr;have hR:=ok.t k hk' hk;rw[h1]at hR;obtain⟨_,h3,_,_,h4⟩:=qM (yS hR.fits r hr);exact⟨h4,h3⟩
theorem Gx {s:cn}(so:eW s)(hg:s.nD){name:List Nat}(h:(s.named name).2=true):0<(s.named name).1.cols.length/\(s.named name).1.cols.length<=16:=by
 obtain⟨k,hk,h1,_⟩:=so.at hg (yD h);have:=((rI s.tables hg.t).1 so.tabs k hk).2.2.1;rw[h1]at this;obtain⟨h2,h3,_⟩:=this;exact⟨length_pos_iff.2 h2,h3⟩
theorem Jc {w:pe}(hg:w.aL.nD){a b:List Nat}{x y:Nat}(hxy:x≠y){on:Ex}{e f:Int}{p q:List (List Val)}(A:Ans w (qJ a b x y on) e p) (B:Ans w (qJ b a y x on) f q):
  e=f/\(e=0->(w.aL.named a).2=true/\(0<(w.aL.named a).1.cols.length/\0<(w.aL.named b).1.cols.length/\(w.aL.named a).1.cols.length+(w.aL.named b).1.cols.length<=1000)/\(∀r∈q,r.length=(w.aL.named a).1.cols.length+(w.aL.named b).1.cols.length)/\p=oK (q.map λ r=>r.drop (w.aL.named b).1.cols.length++r.take (w.aL.named b).1.cols.length)):=by
 have hbb:(bN w.aL (eO (qJ b a y x on))).2=(bN w.aL (eO (qJ a b x y on))).2:=by
  rw[adN hxy,adN (Ne.symm hxy)]
  by_cases h1:eW w.aL/\(qJ a b x y on).may=true
  ·have hm:=((Tn _ _ _ _ _).1 h1.2).2.2;rw[aw h1,aw ⟨h1.1,(adM _ _ _ _ _).1 h1.2⟩,(PV hm).1,nO,nO,Nat.add_comm];simp only[and_comm]
  rw[ai h1,ai λ h=>h1 ⟨h.1,(adM _ _ _ _ _).2 h.2⟩]
 by_cases h:fW w/\(bN w.aL (eO (qJ a b x y on))).2=0
 ·obtain⟨ok,h0⟩:=h;have bA:=qg.of (q:=qJ a b x y on) rfl h0;have bB:=qg.of (q:=qJ b a y x on) rfl (hbb.trans h0);have hm:=((Tn _ _ _ _ _).1 bA.may).2.2
  have hn:(w.aL.named a).2=true/\(w.aL.named b).2=true:=by
   have:=bA.src;rw[aje hxy]at this
   by_cases h:(w.aL.named a).2=true/\(w.aL.named b).2=true
   ·exact h
   rw[ai h]at this;omega
  rw[asB]at bA bB;obtain⟨eA,pA⟩:=A.eq _ ok bA;obtain⟨eB,pB⟩:=B.eq _ ok bB;have fa:=N9 ok hg hn.1;have fb:=N9 ok hg hn.2;obtain⟨ct,ci⟩:=PV (s:=w.aL) (a:=a) (b:=b) (x:=x) (y:=y) hm;have two:=Vy fa fb ci
  have rA:sY w (j9 w.aL (qJ a b x y on) []) (qJ a b x y on).ao.length=jJ [[],(cJ w.aL a b x y on).1] [w.rows.getD (D9 w.aL (w.aL.named a).1.id).toNat [],w.rows.getD (D9 w.aL (w.aL.named b).1.id).toNat []] [] (eH ((w.aL.named a).1.cols.length+(w.aL.named b).1.cols.length)) 2:=by
   unfold sY j9;simp only[amQ,amR,nO];rfl
  have rB:sY w (j9 w.aL (qJ b a y x on) []) (qJ b a y x on).ao.length=jJ [[],Ex.iw (sg (w.aL.named a).1.cols.length (w.aL.named b).1.cols.length) (cJ w.aL a b x y on).1] [w.rows.getD (D9 w.aL (w.aL.named b).1.id).toNat [],w.rows.getD (D9 w.aL (w.aL.named a).1.id).toNat []] [] (eH ((w.aL.named a).1.cols.length+(w.aL.named b).1.cols.length)) 2:=by
   unfold sY j9;simp only[amQ,amR,nO,ct];rw[Nat.add_comm (w.aL.named b).1.cols.length];rfl
  rw[rA]at eA pA;rw[rB]at eB pB;have hmA:=tD [[],(cJ w.aL a b x y on).1] [w.rows.getD (D9 w.aL (w.aL.named a).1.id).toNat [],w.rows.getD (D9 w.aL (w.aL.named b).1.id).toNat []] [] (eH ((w.aL.named a).1.cols.length+(w.aL.named b).1.cols.length)) 2;have hmB:=tD [[],Ex.iw (sg (w.aL.named a).1.cols.length (w.aL.named b).1.cols.length) (cJ w.aL a b x y on).1] [w.rows.getD (D9 w.aL (w.aL.named b).1.id).toNat [],w.rows.getD (D9 w.aL (w.aL.named a).1.id).toNat []] [] (eH ((w.aL.named a).1.cols.length+(w.aL.named b).1.cols.length)) 2;generalize jJ [[],(cJ w.aL a b x y on).1] _ [] _ 2=RA at *;generalize jJ [[],Ex.iw _ (cJ w.aL a b x y on).1] _ [] _ 2=RB at *;refine⟨by rw[eA,eB];exact two.1,λ h=>⟨hn.1,?_,λ r hr=>?_,?_⟩⟩
  ·have ca:=Gx ok.s hg hn.1;have cb:=Gx ok.s hg hn.2;exact⟨ca.1,cb.1,ae⟩
  ·rw[pB]at hr;rw[(hmB r ((mO _).mem_iff.1 hr)).2,u7]
  have hp:=two.2 (eA.symm.trans h);have s0:=ajH λ r hr=>(hmA r hr).1
  have hq:(q.map λ r=>r.drop (w.aL.named b).1.cols.length++r.take (w.aL.named b).1.cols.length).Perm RA.rows:=by
   rw[pB];exact((mO _).map _).trans hp
  rw[pA];exact CV (λ r hr=>(hmA r (hq.mem_iff.1 hr)).1) (s0.1.trans hq.symm) s0.2
 have e1:=A.bad h;have e2:=B.bad (by rw[hbb];exact h);rw[hbb]at e2;refine⟨e1.trans e2.symm,λ h0=>ar (A.ok h0) λ⟨h1,h2⟩=>h ⟨h2,h1⟩⟩
end Go.Abs
namespace Go.Abs
open List
open Go.Proofs
open Classical
set_option maxRecDepth 100000
theorem UF {l:List bK}{p:bK->Bool}{i:Nat}(h:i<l.length):fU bK.zero p (l.drop i)=if p l[i]=true then (l[i],true)else fU bK.zero p (l.drop (i+1)):=by
 rw[ga h];unfold fU;rw[find?_cons]
 cases p l[i]<;>rfl
theorem afh (s:cn)(hs:s.tables.length<=aU)(name:List Nat):aj Tryz.prog 18 [.agg [aH.ds s.tables,bp.ds s.indexes] 2,.str name] (.bo [.agg (aH.cells (s.named name).1) 4,.bool (s.named name).2]):=by
 unfold aU at hs;refine gW c18 ah ah (by simp[A18]) λ F hF=>?_;simp[A18,hF]
 refine aE.of (λ q F K n ms=>∃i:Nat,q=s.tables.length - i/\i<=s.tables.length/\F.get 1=some (.str name)/\F.get 2=some (.ptr 0 0)/\F.get 4=some (.ptr 1 0)/\F.get 6=some (.int .i64 (i:Int))/\K.get 0=some (.cells 2 [] [aH.ds s.tables,bp.ds s.indexes] .nil)/\(∃l,K.get 1=some (.cells 4 [] l .nil)/\l.length=4)/\s.named name=fU bK.zero (λ t:bK=>decide (t.name=name)) (s.tables.drop i)/\ms=[]) s.tables.length
  ⟨0,ae,ae,by simp[hF],ah,ah,ah,ah,⟨[.int .u32 0,.str [],.aV (.slice none 0 0),.int .u32 0],ah,rfl⟩,rfl,rfl⟩ ?_
 clear hF F;rintro q F K n ms ⟨i,rfl,hi,f1,f2,f4,f6,k0,⟨l,k1,hl⟩,hn,rfl⟩
 by_cases h:i<s.tables.length
 ·have hx:=aH.ix (ik:=.i64) h;have hld:=λ H=>aH.pQ s.tables[i] (aH.l (s.tables.drop (i+1))) H;rw[UF h]at hn;generalize s.tables[i]=t at *;have hav:aH.av t=.agg [.int .u32 t.id,.str t.name,dL.ds t.cols,.int .u32 t.head] 4:=rfl;simp only[eK,hav,cons_append,nil_append]at hx hld
  by_cases hc:t.name=name
  ·simp only[hc,decide_true,if_true]at hn;subst hc;rw[hn,eK];have oc:(dL.ds t.cols).one=true:=rfl;simp[Tm,f1,f2,f6,k0,aZ.aM,h,hx,hld,f4,k1,hl,oc];exact .pure _ ah
  simp only[hc,decide_false]at hn;simp[Tm,f1,f2,f6,k0,aZ.aM,h,hx,hc,aD i ae];exact⟨_,ae,i+1,rfl,ae,f4,ae,⟨l,k1,hl⟩,hn⟩
 obtain rfl:i=s.tables.length:=ae;rw[drop_length]at hn;have hn:s.named name=(bK.zero,false):=hn;rw[hn];simp[Tm,f2,f6,k0,aZ.aM,aiU,f4,k1,hl];exact .bo _ _ (.cons _ _ _ _ (.agg _ _ _ (ajj _)) (.cons _ _ _ _ (.pure _ ah) .nil))
theorem ajJ {r:List Val}{k:Nat}(h:k<=r.length):ja 3 (some (.int .i64 (k:Int))) none none (ay r)=.val (ay (r.drop k)):=by
 rw[<-wZ,<-wZ];exact uZ.avc h
theorem ajK {r:List Val}{k:Nat}(h:k<=r.length):ja 3 none (some (.int .i64 (k:Int))) none (ay r)=.val (ay (r.take k)):=by
 rw[<-wZ,<-wZ];exact uZ.Jj h
theorem ajC {F:Fr}{K:Hp}{n:Nat}{Q:QA}{N D v:AV}{q acc:List (List Val)}{i k:Nat}(hi:i<q.length)(hk0:0<k)(hk:k<q[i].length)(hl:q[i].length<=1000)(ha:acc.length<=5000)(f15:F.get 15=some (.ptr 9 0))(f20:F.get 20=some v)(f21:F.get 21=some (.int .i64 (i:Int)))(f22:F.get 22=some (.int .i64 (k:Int)))
  (k9:K.get 9=some (.cells 4 [] [N,D,.ds (aJ q) q.length 1,.int .i64 0] .nil))(os:aC K n v (aJ acc) acc.length 1)(hb:∀x,blk v=some x->10<=x)(ht:dh K n)
  (hQ:∀F' K' n' v' x,(∀t∈[12,15,19,21],F'.get t=F.get t)->F'.get 20=some v'->n<=n'->(∀c,c<10->K'.get c=K.get c)->(∀c,blk v'=some c->n<=c)->(∀c,blk x=some c->n<=c)->(∀c,blk v'=some c->blk x≠some c)->aC K' n' v' (aJ acc++[x]) (acc.length+1) 1->aC K' n' x (cM (q[i].drop k++q[i].take k)) q[i].length 3->dh K' n'->Q .normal F' K' n' []):
  VC Tryz.prog Z8 F K n [] Q:=by
 have hx:=iQ (k:=.i64) hi;have s1:=ajJ (Nat.le_of_lt hk);have s2:=ajK (Nat.le_of_lt hk);generalize hR:q[i]=r at *;have k9n:9<n:=ht.lt k9;simp[Z8];refine bC.of bh ?_;simp[ab,f15,f21,f22,k9,hx,s1,cN,dm,ht n ae];have o0:aC (K.put n (some (.cells 0 [] [] .nil))) (n+1) (.sl n 0 0 3) [] 0 3:=⟨ah,.inr ⟨n,_,rfl,ae,(Tr.get_put _ _ _ _).trans (aw rfl),OwnB.list rfl⟩⟩;refine aC.zr (k:=(r.drop k).length) (new:=cM (r.drop k)) o0 (by simp[ay]) (by simp[ay]) (by rw[<-j8];simp) ae (by simp;omega) (by unfold big;simp;omega) ae (by rw[<-j8];simp) λ K1 o1 g1=>?_;have b1:∀c,c<n->K1.get c=K.get c:=λ c hc=>(g1 c ae (λ e=>by injection e with e;omega)).trans (by simp[show ¬c=n by omega]);have t1:dh K1 (n+1+1):=λ c hc=>(g1 c ae (λ e=>by injection e with e;omega)).trans (by simp[show ¬c=n by omega,ht c ae]);have k91:=(b1 9 k9n).trans k9;simp[ab,f15,f21,f22,k9,k91,hx,s2];have e1:(r.drop k).length=r.length - k:=length_drop;have e2:(r.take k).length=k:=by rw[length_take];omega
 rw[e1,q7,nil_append]at o1;refine aC.zr (k:=k) (new:=cM (r.take k)) o1 (by simp[ay]) (by simp[ay];omega) (by rw[<-j8];simp;omega) ae ae (by unfold big;omega) ae (by rw[<-j8];simp) λ K2 o2 g2=>?_;have b2:∀c,c<n->K2.get c=K.get c:=λ c hc=>(g2 c ae (λ e=>by injection e with e;omega)).trans (b1 c hc);have t2:dh K2 (n+1+1+1):=λ c hc=>(g2 c ae (λ e=>by injection e with e;omega)).trans (t1 c ae);simp[ab,f20,cN,dm,ht (n+1+1+1) ae,t1 (n+1+1+1) ae,t2 (n+1+1+1) ae];rw[show r.length - k+k=r.length by omega,show cM (r.drop k)++cM (r.take k)=cM (r.drop k++r.take k) by rw[<-j8,<-j8,<-j8,aZ.gX]]at *;generalize hK3:Tr.put K2 (n+1+1+1) _=K3;have b3:∀c,c<n+1+1+1->K3.get c=K2.get c:=λ c hc=>by rw[<-hK3];simp[show ¬c=n+1+1+1 by omega]
 have x3:K3.get (n+1+1+1)=some (.cells 1 [] [.sl (n+1+1) 0 r.length 3] .nil):=by rw[<-hK3];simp
 have t3:dh K3 (n+1+1+1+1):=λ c hc=>by rw[<-hK3];simp[show ¬c=n+1+1+1 by omega,t2 c ae]
 clear hK3;have o3:aC K3 (n+1+1+1+1) v (aJ acc) acc.length 1:=os.frame ae λ c hc=>(b3 c (by have:=os.df hc;omega)).trans (b2 c (os.df hc));refine aC.zr (k:=1) (new:=[.sl (n+1+1) 0 r.length 3]) o3 (bD x3) ah ah ae ae (by unfold big;omega) ae rfl λ K4 o4 g4=>?_;have g4':∀c,c≠n+1+1+1+1->blk v≠some c->K4.get c=K3.get c:=λ c h1 h2=>g4 c h1 λ e=>h2 (by rw[e];rfl);have vlt:∀c,blk v=some c->c<n:=λ c hc=>os.df hc;simp;refine hQ _ K4 _ (.sl (n+1+1+1+1) 0 (acc.length+1) 1) (.sl (n+1+1) 0 r.length 3) (λ t h=>?_) ah ae (λ c hc=>?_) (λ c hc=>by simp at hc;omega) (λ c hc=>by simp at hc;omega) (λ c hc h=>by simp at hc h;omega) o4 ?_ λ c hc=>?_
 ·simp only[mem_cons,not_mem_nil,or_false]at h
  rcases h with rfl|rfl|rfl|rfl<;>simp[ab]
 ·exact(g4' c ae λ h=>by have:=hb c h;omega).trans ((b3 c ae).trans (b2 c ae))
 ·refine o2.frame ae λ c hc=>?_;simp at hc;exact(g4' c ae λ h=>by have:=vlt c h;omega).trans (b3 c ae)
 exact(g4' c ae λ h=>by have:=vlt c h;omega).trans (t3 c ae)
def TB (k2:Nat)(r:List Val):List Val:=r.drop k2++r.take k2
structure T5 (k1 k2:Nat)(C7:List AV)(N D:AV)(q:List (List Val))(i:Nat)(v:AV)(F:Fr)(K:Hp)(n:Nat):Prop where
 f12:F.get 12=some (.ptr 7 0)
 f15:F.get 15=some (.ptr 9 0)
 f19:F.get 19=some (.int .i64 (k1:Int))
 f20:F.get 20=some v
 f21:F.get 21=some (.int .i64 (i:Int))
 k7:K.get 7=some (.cells 4 [] C7 .nil)
 k9:K.get 9=some (.cells 4 [] [N,D,.ds (aJ q) q.length 1,.int .i64 0] .nil)
 os:aC K n v (aJ ((q.take i).map (TB k2))) i 1
 vb:∀x,blk v=some x->10<=x
 ht:dh K n
theorem apD {k1 k2:Nat}{C7:List AV}{N D:AV}{q:List (List Val)}{v:AV}{F:Fr}{K:Hp}{n:Nat}{Q:QA}(h1:0<k1)(h2:0<k2)(hk:k1+k2<=1000)(hq:q.length<=4096)(hl:∀r∈q,r.length=k1+k2)(T:T5 k1 k2 C7 N D q 0 v F K n)
  (hQ:∀F' K' n' v',T5 k1 k2 C7 N D q q.length v' F' K' n'->Q (.exit 0) F' K' n' []):aE agx Tryz.prog F K n [] Q:=by
 refine aE.ofZ (λ g F K n ms=>∃(i:Nat) (v:AV),g=q.length - i/\i<=q.length/\T5 k1 k2 C7 N D q i v F K n/\ms=[]) q.length (Zs.refl ⟨0,v,ae,ae,T,rfl⟩) ?_;clear T F K n v;rintro g F K n ms ⟨i,v,rfl,hi,⟨f12,f15,f19,f20,f21,k7,k9,os,vb,ht⟩,rfl⟩
 by_cases h:i<q.length
 ·have hx:=iQ (k:=.i64) h;have hr:=hl _ (dw h);have hlen:bm (ay q[i])=.val (.int .i64 ((k1+k2:Nat):Int)):=by rw[<-hr];rfl
  have w1:IntKind.i64.wrap ((k1:Int)+(k2:Int) - (k1:Int))=(k2:Int):=by simp[IntKind.wrap,IntKind.signed,IntKind.bits];omega
  simp[agx,f15,f21,k9,h,hx,hlen,f19,w1,show ¬(k2:Int)<0 by omega];have al:((q.take i).map (TB k2)).length=i:=by simp;omega
  refine ajC (N:=N) (D:=D) (q:=q) (acc:=(q.take i).map (TB k2)) (v:=v) (i:=i) (k:=k2) h h2 ae ae ae (by simp[f15]) (by simp[f20]) (by simp[f21]) ah k9 (by rw[al];exact os) vb ht λ F' K' n' v' x hF hv hn hc hb hx hd o1 o2 ht'=>?_;rw[al]at o1;rw[hr]at o2;have JO:=(hF 12 ah).trans (by simp[f12]:_=some (AV.ptr 7 0));have g15:=(hF 15 ah).trans (by simp[f15]:_=some (AV.ptr 9 0));have g19:=(hF 19 ah).trans (by simp[f19]:_=some (AV.int .i64 (k1:Int)));have g21:=(hF 21 ah).trans (by simp[f21]:_=some (AV.int .i64 (i:Int)));have c7:=(hc 7 ae).trans k7;have c9:=(hc 9 ae).trans k9;have nn:=ht.lt k9;clear hF hc;simp[ah9,g21,aD i ae];generalize hF2:(Fp 21 _ _:Fr)=F2;have w12:F2.get 12=some (.ptr 7 0):=by rw[<-hF2];simp[JO]
  have w15:F2.get 15=some (.ptr 9 0):=by rw[<-hF2];simp[g15]
  have w19:F2.get 19=some (.int .i64 (k1:Int)):=by rw[<-hF2];simp[g19]
  have w20:F2.get 20=some v':=by rw[<-hF2];simp[hv]
  have w21:F2.get 21=some (.int .i64 ((i+1:Nat):Int)):=by rw[<-hF2];simp
  clear hF2;obtain⟨hh,K6,hsh,o6,g6⟩:=aei (F:=F2) (F2:=F2) (r:=[]) (λ t v hv=>hv) o1 ae o2 ae (by rw[<-j8];simp) hd;refine⟨q.length - (i+1),ae,hh,F2,K6,hsh,i+1,rfl,ae,⟨v',⟨w12,w15,w19,w20,w21,?_,?_,?_,λ c hc=>by have:=hb c hc;omega,?_⟩⟩,rfl⟩
  ·exact(g6 7 (λ h=>by have:=hb 7 h;omega) λ h=>by have:=hx 7 h;omega).trans c7
  ·exact(g6 9 (λ h=>by have:=hb 9 h;omega) λ h=>by have:=hx 9 h;omega).trans c9
  ·rw[take_snoc h,map_append,map_cons,map_nil,show ∀A B:List (List Val),aJ (A++B)=aJ A++aJ B from λ A B=>by simp[aJ]];show aC K6 n' v' (aJ ((q.take i).map (TB k2))++[.ds (cM (TB k2 q[i])) (TB k2 q[i]).length 3]) (i+1) 1;have e:(TB k2 q[i]).length=k1+k2:=by simp[TB,hr]
   rw[e];exact o6
  exact λ c hc=>(g6 c (λ h=>by have:=o1.df h;omega) λ h=>by have:=o2.df h;omega).trans (ht' c hc)
 obtain rfl:i=q.length:=ae;simp[agx,f15,f21,k9];refine hQ _ _ _ v ⟨by simp[f12],by simp[f15],by simp[f19],by simp[f20],by simp[f21],k7,k9,os,vb,ht⟩
theorem oG.uy {h:Hf}{φ:Ph}{D:Da}{w:World}(hr:Rel φ D h w):∀ {l l':List AV}{xs:List Value},oG h l l'->bW φ D l xs->bW φ (Go.Abs.shut φ D h w) l' xs
 |[],[],_,_,.nil=>.nil
 |[],_::_,_,k,_=>by simp[oG]at k
 |_::_,[],_,k,_=>by simp[oG]at k
 |_::_,_::_,_,k,.cons _ _ _ _ h1 h2=>by
  simp only[wY]at k;exact .cons _ _ _ _ (k.1.vr hr h1) (oG.uy hr k.2 h2)
theorem ak.zb {P:Program}{g:FuncId}{args args':List AV}{h:Hf}{F F2:Fr}{H H2:Hp}{n:Nat}{R:AV->Hp->Nat->Prop}(s:dQ h F H F2 H2)(ha:oG h args args')(hc:ak P g args' H2 n R):ak P g args H n R:=
 ⟨hc.1,λ φ D w xs hr hv hf RR hR=>hc.2 φ (Go.Abs.shut φ D h w) w xs (s.rel hr) (ha.uy (hr.sub s.sub) hv) hf RR λ v H' n' φ' D' w' x r e k hx=>hR v H' n' φ' D' w' x r (s.ext.trans e) k hx⟩
theorem aB.zb {f:FuncId}{vs vs':List AV}{pd:Pd}{r:List (Option GO)}{P:Program}{h:Hf}{F F1 F2:Fr}{H H2:Hp}{n:Nat}{m:List Dm}{Q:QA}(s:dQ h F1 H F2 H2)(ha:oG h vs vs')(hc:aB f vs' pd r P F H2 n m Q):aB f vs pd r P F H n m Q:=ak.zb s ha hc
def qC (S:AV):List AV:=[.bool false,.bool true,nS,S,.int .i64 0,.int .i64 0,.int .i64 0,.str [],.str [],.str [],.int .i64 0,nS,nS,.bool false,.int .i64 0]
theorem aoX (a b:List Nat)(x y:Nat)(on:Ex):NL (qC (gf.ds (qJ a b x y on).ao)) (qJ a b x y on).cells:=by
 have h1:=akr;have h2:NV nS (tV.ds []):=.inr ⟨rfl,8,rfl⟩;have h3:NV nS (tU.ds []):=.inr ⟨rfl,1,rfl⟩;simp[qC,qJ,bI.cells,wE,Ex.cells,h1,h2,h3]
theorem V0 (a b:List Nat)(x y:Nat)(on:Ex):NL (V1 (qC (gf.ds (qJ a b x y on).ao))) (eO (qJ a b x y on)).cells:=by
 have h1:=akr;have h2:NV nS (tV.ds []):=.inr ⟨rfl,8,rfl⟩;have h3:NV nS (tU.ds []):=.inr ⟨rfl,1,rfl⟩;simp[V1,qC,eO,dE.z,dE.cells,qJ,bI.cells,wE,Ex.cells,h1,h2,h3]
def sC (a b:List Nat)(x y:Nat)(e:List AV):List AV:=[.str a,.str [x],.int .i64 0,.int .i64 0,.int .i64 0,.str [],.str [],.str [],.int .i64 0,nS,.str b,.str [y]]++e
theorem V2 (h:Hf)(a b:List Nat)(x y:Nat)(on:Ex):bc h (sC a b x y on.cells) (gf.l (qJ a b x y on).ao):=by
 have e:gf.l (qJ a b x y on).ao=[.str a,.str [x],.int .i64 0,.int .i64 0,.int .i64 0,.str [],.str [],.str [],.int .i64 0,.ds [] 0 8,.str b,.str [y]]++on.cells:=by
  simp[qJ,aZ.lC,aZ.apL,gf,wE,Ex.cells,Ex.aT]
 rw[e];have p:∀ {v:AV} {l l':List AV},Pure v->bc h l l'->bc h (v::l) (v::l'):=λ h1 h2=>.cons _ _ _ _ (.pure _ h1) h2;refine p ah (p ah (p ah (p ah (p ah (p ah (p ah (p ah (p ah (.cons _ _ _ _ (.nil 7) (p ah (p ah (bc.pure (Ex.vH on)))))))))))))
theorem aoB {K:Hp}{c2 c4 l2 l4:List AV}(k2:K.get 2=some (.cells 20 [] c2 .nil)) (k3:K.get 3=some (.cells 15 [] (qC (.sl 2 0 2 10)) .nil)) (k4:K.get 4=some (.cells 20 [] c4 .nil)) (k5:K.get 5=some (.cells 15 [] (qC (.sl 4 0 2 10)) .nil))
  (z2:∀h,bc h c2 l2)(z4:∀h,bc h c4 l4):∃h K',(∀F,dQ h F K F K')/\e_ h (.sl 2 0 2 10) (.ds l2 2 10)/\K'.get 0=K.get 0/\K'.get 3=some (.cells 15 [] (qC (.ds l2 2 10)) .nil)/\K'.get 5=some (.cells 15 [] (qC (.ds l4 2 10)) .nil)/\∀c,6<=c->K'.get c=K.get c:=by
 obtain⟨h,hh⟩:∃h:Hf,h=λ c=>if c=2∨c=4 then K.get c else none:=⟨_,rfl⟩
 have e2:h 2=some (.cells 20 [] c2 .nil):=by rw[hh];exact k2
 have e4:h 4=some (.cells 20 [] c4 .nil):=by rw[hh];exact k4
 have f2:e_ h (.sl 2 0 2 10) (.ds l2 2 10):=.sl _ _ _ _ 20 [] c2 .nil c2 _ e2 ah (z2 h);have f4:e_ h (.sl 4 0 2 10) (.ds l4 2 10):=.sl _ _ _ _ 20 [] c4 .nil c4 _ e4 ah (z4 h);refine⟨h,(((K.put 2 none).put 4 none).put 3 (some (.cells 15 [] (qC (.ds l2 2 10)) .nil))).put 5 (some (.cells 15 [] (qC (.ds l4 2 10)) .nil)),λ F=>⟨λ b k hb=>?_,λ b hb=>?_,λ t v h=>⟨v,h,.inl rfl⟩,λ b y hy=>?_⟩,f2,ah,ah,ah,λ c hc=>by simp[show ¬c=2 by omega,show ¬c=3 by omega,show ¬c=4 by omega,show ¬c=5 by omega]⟩
 ·rw[hh]at hb;simp only at hb
  split at hb
  ·exact hb
  cases hb
 ·rw[hh]at hb;simp only at hb
  split at hb
  ·rename_i h
   rcases h with rfl|rfl<;>simp
  exact ar rfl hb
 by_cases b5:b=5
 ·subst b5;simp at hy;subst hy;exact⟨_,k5,oG.bz (by simp[qC];exact .inr f4) rfl⟩
 by_cases b3:b=3
 ·subst b3;simp at hy;subst hy;exact⟨_,k3,oG.bz (by simp[qC];exact .inr f2) rfl⟩
 by_cases b4:b=4
 ·subst b4;simp at hy
 by_cases b2:b=2
 ·subst b2;simp at hy
 exact⟨y,by simpa[b2,b3,b4,b5]using hy,.inl rfl⟩
theorem P4 {w:pe}{R N C:AV}{e:Int}{rows:List (List Val)}(o:R.one=true/\N.one=true/\C.one=true):∃A B C' N' D W,Zl w R N C e rows=.bo [.agg [A,B,C'] 3,.agg [N',D,W,.int .i64 0] 4,.int .i64 e]/\(A.one=true/\B.one=true/\C'.one=true/\N'.one=true/\D.one=true/\W.one=true)/\(e=0->W=.ds (aJ rows) rows.length 1):=by
 unfold Zl
 by_cases he:e=0
 ·rw[aw he];exact⟨_,_,_,_,_,_,by rw[he];rfl,⟨rfl,rfl,o.1,o.2.1,o.2.2,rfl⟩,λ _=>rfl⟩
 rw[ai he];exact⟨_,_,_,_,_,_,rfl,⟨rfl,rfl,rfl,rfl,rfl,rfl⟩,λ h=>ar h he⟩
theorem ahB {s:cn}(hs:s.gG){a b:List Nat}{x y:Nat}{on:Ex}(hx:(eO (qJ a b x y on)).sm):aj Tryz.prog 23 [kQ.av s,(eO (qJ a b x y on)).av] (.bo [.agg (bN s (eO (qJ a b x y on))).1.cells 25,.int .i64 (bN s (eO (qJ a b x y on))).2]):=by
 have aww:aj Tryz.prog 113 [.agg (eO (qJ a b x y on)).q.cells 15] (.bool (eO (qJ a b x y on)).q.may):=aeD _ hx.qc hx.order hx.ao hx.items hx.item hx.src;refine ame s hs _ (akA _ hx λ F K Q E fin=>afk _ hx aww rfl F K Q E fin) λ ok ho F K Q E fin=>?_;have ok':(eO (qJ a b x y on)).q.may=true:=by simpa[dE.ok,eO,dE.z]using ok
 have hq:=bI.Py ho hx ok';exact agf s hs _ hq (aro (by simp[eO,qJ,wE,Ex.bare])) (λ y hy=>af4 (hq.sr y hy).1 (hq.sr y hy).2) (X9 (X6 rfl)) (WV rfl) rfl F K Q E fin
theorem aos (hA:aj Tryz.prog 13 [] (.bool true))(w:pe)(hw:w.gG)(one two:List Nat)(on:Ex)(hx:(eO (qJ one two 120 121 on)).sm)(hy:(eO (qJ two one 121 120 on)).sm):aj Tryz.prog 5 [oW.av w,.str one,.str two,.agg on.cells 8] (.bool true):=by
 refine gW c5 ah ah (by simp[A5]) λ F hF=>?_;have h8:=(afG w hw (qJ one two 120 121 on) (by simp[qJ,aU])).nl (by simp[qC]) (aoX one two 120 121 on);generalize hvQ w _=hv at h8;obtain⟨e,p,a⟩:=ans_of hw hx rfl rfl rfl (ahB hw.s hx);obtain⟨f,q,b⟩:=ans_of hw hy rfl rfl rfl (ahB hw.s hy);have law:=Jc hw.g ae a b;obtain⟨R1,N1,C1,o1,g1⟩:=a.run;obtain⟨R2,N2,C2,o2,g2⟩:=b.run;obtain⟨A1,B1,D1,E1,G1,W1,v1,o1,w1⟩:=P4 (w:=w) (e:=e) (rows:=p) o1;obtain⟨A2,B2,D2,E2,G2,W2,v2,o2,w2⟩:=P4 (w:=w) (e:=f) (rows:=q) o2;rw[v1]at g1;rw[v2]at g2
 replace g1:=aj.nl (l':=(eO (qJ one two 120 121 on)).cells) g1 (by simp[V1,qC]) (V0 one two 120 121 on)
 replace g2:=aj.nl (l':=(eO (qJ two one 121 120 on)).cells) g2 (by simp[V1,qC]) (V0 two one 121 120 on)
 have hn:=afh w.aL hw.s.t one;have z2:=λ h=>V2 h one two 120 121 on;have z4:=λ h=>V2 h two one 121 120 on;have lp:=a.len;have mp:=a.may;have lq:=b.len;clear v1 v2 a b hx hy;have sA:gf.ds (qJ one two 120 121 on).ao=.ds (gf.l (qJ one two 120 121 on).ao) 2 10:=rfl;have sB:gf.ds (qJ two one 121 120 on).ao=.ds (gf.l (qJ two one 121 120 on).ao) 2 10:=rfl;rw[sA]at h8 g1;rw[sB]at g2;generalize gf.l (qJ one two 120 121 on).ao=l2 at *;generalize gf.l (qJ two one 121 120 on).ao=l4 at *;clear sA sB;obtain⟨op,v,t,m,cG,args⟩:=on;have pc:(Ex.mk op v t m cG args).cells=[.int .i64 op,.int .i64 v.kind,.int .i64 v.num,.str v.s,.str t,.str m,.int .i64 cG,.ds (Ex.aT args) args.length 8]:=rfl;have hwv:oW.av w=.agg [aH.ds w.aL.tables,bp.ds w.aL.indexes,iH.ds w.rows] 3:=Eq.trans rfl rfl;rw[pc]at hF z2 z4;rw[hwv]at hF h8 g1 g2;simp[A5,hF,rep];generalize hF2:(Fp 38 _ _:Fr)=F2;have f1:F2.get 1=some (.str one):=by rw[<-hF2];simp[hF]
 have f4:F2.get 4=some (.ptr 0 0):=by rw[<-hF2];simp
 have f9:F2.get 9=some (.ptr 3 0):=by rw[<-hF2];simp
 have f10:F2.get 10=some (.ptr 5 0):=by rw[<-hF2];simp
 clear hF2 hF F;generalize hK:Tr.put _ 5 _=K;have k0:K.get 0=some (.cells 3 [] [aH.ds w.aL.tables,bp.ds w.aL.indexes,iH.ds w.rows] .nil):=by rw[<-hK];simp
 have k2:K.get 2=some (.cells 20 [] (sC one two 120 121 [.int .i64 op,.int .i64 v.kind,.int .i64 v.num,.str v.s,.str t,.str m,.int .i64 cG,.ds (Ex.aT args) args.length 8]) .nil):=by rw[<-hK];simp[sC]
 have k3:K.get 3=some (.cells 15 [] (qC (.sl 2 0 2 10)) .nil):=by rw[<-hK];simp[qC]
 have k4:K.get 4=some (.cells 20 [] (sC two one 121 120 [.int .i64 op,.int .i64 v.kind,.int .i64 v.num,.str v.s,.str t,.str m,.int .i64 cG,.ds (Ex.aT args) args.length 8]) .nil):=by rw[<-hK];simp[sC]
 have k5:K.get 5=some (.cells 15 [] (qC (.sl 4 0 2 10)) .nil):=by rw[<-hK];simp[qC]
 have kt:dh K 6:=λ c hc=>by rw[<-hK];simp[show ¬c=0 by omega,show ¬c=1 by omega,show ¬c=2 by omega,show ¬c=3 by omega,show ¬c=4 by omega,show ¬c=5 by omega]
 clear hK pc;obtain⟨h,K',sh,fz,j0,j3,j5,jt⟩:=aoB k2 k3 k4 k5 z2 z4;have t6:dh K' 6:=λ c hc=>(jt c hc).trans (kt c hc);rw[k0]at j0;clear k0 k2 k3 k4 k5 kt jt z2 z4;refine aB.zb (sh F2) (vs':=[.agg [aH.ds w.aL.tables,bp.ds w.aL.indexes,iH.ds w.rows] 3,.agg (qC (.ds l2 2 10)) 15]) ?_ (aB.pure h8 ?_)
 ·show oG h [.agg [aH.ds w.aL.tables,bp.ds w.aL.indexes,iH.ds w.rows] 3,.agg (qC (.sl 2 0 2 10)) 15] _;have p:∀ {v:AV} {l l':List AV},Pure v->bc h l l'->bc h (v::l) (v::l'):=λ h1 h2=>.cons _ _ _ _ (.pure _ h1) h2;have z:bc h (qC (.sl 2 0 2 10)) (qC (.ds l2 2 10)):=p ah (p ah (p ah (.cons _ _ _ _ fz (bc.pure ah))));simp only[wY];exact⟨.inl rfl,.inr (.agg _ _ _ z),trivial⟩
 clear sh fz K
 have fin:∀ {F:Fr} {K:Hp} {n:Nat},VC Tryz.prog (.seq Z9 .ret) F K n [] (kU [aG 8] λ v1 H' _=>e_ H'.get v1 (.bool true)):=λ {F K n}=>by
  simp[Z9];refine aB.pure hA ?_;simp;exact .bool rfl
 cases hv with
 |true =>
  simp[ast];refine aB.pure hA ?_;simp;exact .bool rfl
 |false =>
  unfold qC at j3 j5 g1 g2;unfold V1 at g1 g2;simp only[cons_append,nil_append]at g1 g2;simp[ass,f4,f9,j0,j3];refine aB.pure g1 ?_;simp[o1];generalize hF3:(Fp 13 _ _:Fr)=F3;have i1:F3.get 1=some (.str one):=by rw[<-hF3];simp[f1]
  have i4:F3.get 4=some (.ptr 0 0):=by rw[<-hF3];simp[f4]
  have i10:F3.get 10=some (.ptr 5 0):=by rw[<-hF3];simp[f10]
  have i12:F3.get 12=some (.ptr 7 0):=by rw[<-hF3];simp
  have i13:F3.get 13=some (.int .i64 e):=by rw[<-hF3];simp
  clear hF3 f1 f4 f9 f10 F2;generalize hK:Tr.put _ 7 _=K;have k0:K.get 0=some (.cells 3 [] [aH.ds w.aL.tables,bp.ds w.aL.indexes,iH.ds w.rows] .nil):=by rw[<-hK];simp[j0]
  have k5:K.get 5=some (.cells 15 [] [.bool false,.bool true,nS,.ds l4 2 10,.int .i64 0,.int .i64 0,.int .i64 0,.str [],.str [],.str [],.int .i64 0,nS,nS,.bool false,.int .i64 0] .nil):=by rw[<-hK];simp[j5]
  have k7:K.get 7=some (.cells 4 [] [E1,G1,W1,.int .i64 0] .nil):=by rw[<-hK];simp
  have kt:dh K 8:=λ c hc=>by rw[<-hK];simp[show ¬c=6 by omega,show ¬c=7 by omega,t6 c ae]
  clear hK j0 j3 j5 t6 K';simp[asr,i4,i10,k0,k5];refine aB.pure g2 ?_;simp[o2];generalize hF3:(Fp 16 _ _:Fr)=F4;have f1:F4.get 1=some (.str one):=by rw[<-hF3];simp[i1]
  have f4:F4.get 4=some (.ptr 0 0):=by rw[<-hF3];simp[i4]
  have f12:F4.get 12=some (.ptr 7 0):=by rw[<-hF3];simp[i12]
  have f13:F4.get 13=some (.int .i64 e):=by rw[<-hF3];simp[i13]
  have f15:F4.get 15=some (.ptr 9 0):=by rw[<-hF3];simp
  have f16:F4.get 16=some (.int .i64 f):=by rw[<-hF3];simp
  clear hF3 i1 i4 i10 i12 i13 F3;generalize hK:Tr.put _ 9 _=K2;have c0:K2.get 0=some (.cells 3 [] [aH.ds w.aL.tables,bp.ds w.aL.indexes,iH.ds w.rows] .nil):=by rw[<-hK];simp[k0]
  have c7:K2.get 7=some (.cells 4 [] [E1,G1,W1,.int .i64 0] .nil):=by rw[<-hK];simp[k7]
  have c9:K2.get 9=some (.cells 4 [] [E2,G2,W2,.int .i64 0] .nil):=by rw[<-hK];simp
  have ct:dh K2 10:=λ c hc=>by rw[<-hK];simp[show ¬c=8 by omega,show ¬c=9 by omega,kt c ae]
  clear hK k0 k5 k7 kt K g1 g2;obtain⟨rfl,law⟩:=law;simp[asq,f13,f16,asp,f4,f1,c0];refine aB.pure hn ?_;simp;generalize hF3:(Fp 18 _ _:Fr)=F5;have JO:F5.get 12=some (.ptr 7 0):=by rw[<-hF3];simp[f12]
  have Vm:F5.get 13=some (.int .i64 e):=by rw[<-hF3];simp[f13]
  have g15:F5.get 15=some (.ptr 9 0):=by rw[<-hF3];simp[f15]
  have g17:F5.get 17=some (.ptr 10 0):=by rw[<-hF3];simp
  have g18:F5.get 18=some (.bool (w.aL.named one).2):=by rw[<-hF3];simp
  clear hF3 f1 f4 f12 f13 f15 f16 F4;generalize hK:Tr.put _ 10 _=K;have k7:K.get 7=some (.cells 4 [] [E1,G1,W1,.int .i64 0] .nil):=by rw[<-hK];simp[c7]
  have k9:K.get 9=some (.cells 4 [] [E2,G2,W2,.int .i64 0] .nil):=by rw[<-hK];simp[c9]
  have k10:K.get 10=some (.cells 4 [] (aH.cells (w.aL.named one).1) .nil):=by rw[<-hK];simp
  have kt:dh K 11:=λ c hc=>by rw[<-hK];simp[show ¬c=10 by omega,ct c ae]
  clear hK c0 c7 c9 ct K2
  by_cases he:e=0
  ·obtain⟨hth,⟨p1,p2,p3⟩,hql,hp⟩:=law he;rw[w1 he]at k7;rw[w2 he]at k9;rw[hth]at g18;rw[eK]at k10;generalize (w.aL.named one).1=t1 at *;generalize (w.aL.named two).1.cols.length=k2 at *;simp[Z_,Vm,he,g18,aia,g17,k10,aZ.aM,ah',ah_];generalize hF3:(Fp 21 _ _:Fr)=F6;have T:T5 t1.cols.length k2 [E1,G1,.ds (aJ p) p.length 1,.int .i64 0] E2 G2 q 0 nS F6 K 11:=⟨by rw[<-hF3];simp[JO],by rw[<-hF3];simp[g15],by rw[<-hF3];simp,by rw[<-hF3];simp,by rw[<-hF3];simp,k7,k9,by simpa[aJ]using aC.nil _ _ 1,λ x hx=>by simp[blk]at hx,kt⟩;clear hF3 JO Vm g15 g17 g18 k7 k9 k10 kt F5;refine apD p1 p2 p3 lq hql T λ F K n v T=>?_;have hpp:p=oK (q.map (TB k2)):=hp
   have hm:∀r∈q.map (TB k2),rS r:=λ r hr=>by
    have:=mp r (by rw[hpp];exact(mO _).mem_iff.2 hr);unfold aU at this;exact⟨this.1,ae⟩
   have hla:(q.map (TB k2)).length<=1048576:=by simp only[length_map];omega
   obtain⟨i12,_,_,i20,_,c7,_,os,vb,ht⟩:=T;rw[take_length]at os;rw[show q.length=(q.map (TB k2)).length by simp]at os;rw[hpp]at c7;generalize q.map (TB k2)=acc at *;have h17:=VQ acc hla hm;have lP:=U7 (oK acc) (oK acc) (by rw[nz];exact hla) λ l hl=>(hm l ((mO acc).mem_iff.1 hl)).2;rw[nz]at lP c7;simp only[decide_true]at lP;simp[ah8]
   obtain⟨A,h,F2,K2,awu,JO,g20,gc7,sh⟩:∃A h F2 K2,aj Tryz.prog 17 [A,nS] (.ds (aJ (oK acc)) acc.length 1)/\F2.get 12=some (.ptr 7 0)/\F2.get 20=some A/\K2.get 7=some (.cells 4 [] [E1,G1,.ds (aJ (oK acc)) acc.length 1,.int .i64 0] .nil)/\dQ h F K F2 K2:=by
    obtain⟨hl1,⟨rfl,hz⟩|⟨b,k,rfl,hb,hk,ho⟩⟩:=os
    ·obtain rfl:acc=[]:=length_eq_zero_iff.1 hz;refine⟨nS,_,_,K,h17.conv ah λ D xs hv=>?_,i12,i20,c7,dQ.refl _ _⟩
     cases hv with
     |cons _ y0 _ ys h0 hv =>
     refine .cons _ _ _ _ ?_ hv;cases h0;exact .tW _
    have hb4:¬ 7=b:=λ e=>by have:=vb b rfl;omega
    refine⟨_,_,Fp 20 (.ds (aJ acc) acc.length 1) F,_,h17,by simp[i12],ah,by rw[Tr.get_put,ai hb4];exact c7,dQ.row (len:=acc.length) (sz:=1) hk ho ah ah λ t v h=>?_⟩
    by_cases e:t=20
    ·subst e;simp at h;exact .inr ⟨i20,h.symm⟩
    exact .inl (by simpa[e]using h)
   refine bC.ofZ (eh (l:=[(17,[A,nS],λ H n=>.mk (.ds (aJ (oK acc)) acc.length 1) H n),(16,[.ds (aJ (oK acc)) acc.length 1,.ds (aJ (oK acc)) acc.length 1],λ H n=>.mk (.bool true) H n),(13,[],λ H n=>.mk (.bool true) H n)]) ?_) sh ?_
   ·intro y hy;simp only[mem_cons,not_mem_nil,or_false]at hy
    rcases hy with rfl|rfl|rfl
    ·exact cR awu
    ·exact cR lP
    exact cR hA
   simp[ab,JO,g20,gc7,bX,u9];exact .bool rfl
  simp[Z_,Vm,he];exact fin
end Go.Abs
