/- A part. -/
import Derived.Test.YtbdgioomddkglaaGreatBt1
noncomputable section
namespace Go.Abs
open List
open Go.Proofs
open Classical
set_option maxRecDepth 100000
section
variable {F:Fr}{H:Hp}{n:Nat}
@[simp] theorem eMput_f (q:LK)(m k v:G):eMput q m k v F H n=oE (m.f F) λ m=>oE (k.f F) λ k=>oE (v.f F) λ v=>cMput q m k v H:=by
 unfold eMput oE
 cases m.f F with
 | none=>rfl
 | some a=>dsimp only;cases k.f F with
  | none=>rfl
  | some b=>dsimp only;cases v.f F<;>rfl
@[simp] theorem eLookup_f (q:LK)(z:AV)(ok:Bool)(m k:G):eLookup q z ok m k F H n=oE (m.f F) λ m=>oE (k.f F) λ k=>cLookup q z ok m k H:=by
 unfold eLookup oE
 cases m.f F with
 | none=>rfl
 | some a=>dsimp only;cases k.f F<;>rfl
end
def mpE:Nat->List Int->List (AV×AV×Nat)
 | _,[]=>[]
 | i,x::r=>(.int .u32 x,.int .i64 1,i)::mpE (i+1) r
theorem mpE_add (x:Int):∀(l:List Int)(i:Nat),mpE i (l++[x])=mpE i l++[(.int .u32 x,.int .i64 1,i+l.length)]
 | [],i=>by simp[mpE]
 | y::r,i=>by simp[mpE,mpE_add x r (i+1)];omega
theorem eqLeaf_i (a b:Int):eqLeaf .i (.int .u32 a) (.int .u32 b)=some (decide (a=b)):=by
 simp only[eqLeaf,if_true]
 congr 1
theorem find_i (k:Int):∀(l:List Int)(i:Nat),findKey .i (.int .u32 k) (mpE i l)=some (if k∈l then some (.int .i64 1)else none)
 | [],i=>rfl
 | y::r,i=>by
  simp only[mpE,findKey,eqLeaf_i]
  by_cases h:k=y
  ·simp[h]
  simp[h,find_i k r (i+1)]
theorem set_i (k:Int)(v:AV):∀(l:List Int)(i:Nat),k∉l->setKey .i (.int .u32 k) v (mpE i l)=some none
 | [],i,_=>rfl
 | y::r,i,h=>by
  simp only[mem_cons,not_or]at h;simp only[mpE,setKey,eqLeaf_i];simp[h.1,set_i k v r (i+1) h.2]
theorem set_y (k:Int)(v:AV):∀(l:List Int)(i:Nat),k∈l->∃es,setKey .i (.int .u32 k) v (mpE i l)=some (some es)/\findKey .i (.int .u32 k) es=some (some v)
 | [],i,h=>by simp at h
 | y :: r,i,h=>by
  simp only[mpE,setKey,eqLeaf_i]
  by_cases e:k=y
  ·subst e;simp[findKey,eqLeaf_i]
  have h2:k∈r:=by simpa[e]using h
  obtain⟨es,h3,h4⟩:=set_y k v r (i+1) h2;simp[e,h3,findKey,eqLeaf_i,h4]
theorem find_add (k:Int)(l:List Int)(i:Nat)(_h:k∉l):findKey .i (.int .u32 k) (mpE i l++[(.int .u32 k,.int .i64 1,i+l.length)])=some (some (.int .i64 1)):=by
 rw[<-mpE_add,find_i];simp
structure S85 (s:Sch)(Fo:Fr)(l:List Int)(K:Hp)(n:Nat):Prop where
 k0:K.get 0=some (.cells 2 [] (eSch.cells s) .nil)
 k1:K.get 1=some (.cells 1 [] [.bool false] .nil)
 k2:K.get 2=some (.map (mpE 0 l) l.length)
 k3:K.get 3=some (.cells 1 [] [.map 2] .nil)
 k4:K.get 4=some (.cells 2 [] (eSch.cells s) .nil)
 k5:K.get 5=some (.loop .ready .normal 120 Fo [25] Y59_0.1 Y59_0.2)
 k6:K.get 6=some .defd
 n7:7<=n
 top:Top K n
structure X85 (Fo:Fr)(K:Hp):Prop where
 k1:K.get 1=some (.cells 1 [] [.bool false] .nil)
 k5:∃nt G ps a b,K.get 5=some (.loop .done .ret nt G ps a b)
 k6:K.get 6=some .defd
theorem page_yld (s:Sch) (Fo:Fr) (l:List Int) (x:Int){K:Hp}{n:Nat}{pd:Pd}{r:List (Option GO)}{F:Fr}{Q:QA}(f2:Fo.get 2=some (.ptr 1 0)) (f3:Fo.get 3=some (.ptr 3 0)) (S:S85 s Fo l K n)
  (h1:x≠0->x∉l->∀K' n',S85 s Fo (l++[x]) K' n'->VCO pG r (pd.f (.bool true) F) K' n' [] Q)
  (h2:(x=0∨x∈l)->∀K' n',X85 Fo K'->VCO pG r (pd.f (.bool false) F) K' n' [] Q):YldV 5 [.int .u32 x] pd r pG F K n [] Q:=by
 obtain⟨k0,k1,k2,k3,k4,k5,k6,n7,top⟩:=S;refine YldV.of k5 (by simp[putsF];rfl) ?_;rw[y59_0a];simp[R59_5,k5];refine⟨_,_,_,_,_,_,⟨rfl,rfl,rfl,rfl,rfl,rfl⟩,?_⟩;rw[y59_0b]
 by_cases hx:x∈l
 ·obtain⟨es,hs1,hs2⟩:=set_y x (.int .i64 2) l 0 hx
  by_cases h0:x=0
  ·subst h0;simp[R59_6,f2,f3,k1,k2,k3,cLookup,cMput,isKey,find_i,hx,hs1,R59_7,R59_8];unfold RndE;refine⟨_,_,_,_,_,_,_,(by simp;exact⟨rfl,rfl,rfl,rfl,rfl,rfl,rfl⟩),?_⟩;refine h2 (by simp) _ _ ⟨by simp,⟨_,_,_,_,_,by simp;exact⟨rfl,rfl,rfl,rfl,rfl⟩⟩,by simp[k6]⟩
  simp[R59_6,f2,f3,k1,k2,k3,cLookup,cMput,isKey,find_i,hx,hs1,hs2,R59_7,h0,R59_8];unfold RndE;refine⟨_,_,_,_,_,_,_,(by simp;exact⟨rfl,rfl,rfl,rfl,rfl,rfl,rfl⟩),?_⟩;refine h2 (by simp[hx]) _ _ ⟨by simp,⟨_,_,_,_,_,by simp;exact⟨rfl,rfl,rfl,rfl,rfl⟩⟩,by simp[k6]⟩
 have hs1:=set_i x (.int .i64 1) l 0 hx;have hs2:=find_add x l 0 hx;simp only[Nat.zero_add]at hs2
 by_cases h0:x=0
 ·subst h0;simp[R59_6,f2,f3,k1,k2,k3,cLookup,cMput,isKey,find_i,hx,hs1,R59_7,R59_8];unfold RndE;refine⟨_,_,_,_,_,_,_,(by simp;exact⟨rfl,rfl,rfl,rfl,rfl,rfl,rfl⟩),?_⟩;refine h2 (by simp) _ _ ⟨by simp,⟨_,_,_,_,_,by simp;exact⟨rfl,rfl,rfl,rfl,rfl⟩⟩,by simp[k6]⟩
 simp[R59_6,f3,k2,k3,cLookup,cMput,isKey,find_i,hx,hs1,hs2,R59_7,h0,R59_8];unfold RndE;refine⟨_,_,_,_,_,_,_,(by simp;exact⟨rfl,rfl,rfl,rfl,rfl,rfl,rfl⟩),?_⟩;refine h1 h0 hx _ _ ⟨?_,?_,?_,?_,?_,?_,?_,n7,?_⟩
 ·simp[k0]
 ·simp[k1]
 ·simp[mpE_add]
 ·simp[k3]
 ·simp[k4]
 ·simp
 ·simp[k6]
 intro b hb;have e2:¬b=2:=by omega
 have e5:¬b=5:=by omega
 simp[e2,e5,top b hb]
def PgOk (l:List Int):Prop:=l.Nodup/\0∉l
def Sch.pages (s:Sch):List Int:=s.tables.map (·.head)++s.indexes.map (·.root)
theorem PgOk.add {l:List Int}{x:Int}(h:PgOk l)(h0:x≠0)(hx:x∉l):PgOk (l++[x]):=by
 refine⟨nodup_append.2 ⟨h.1,by simp,λ a ha b hb=>?_⟩,?_⟩
 ·simp at hb;subst hb;intro e;subst e;exact hx ha
 simp only[mem_append,mem_singleton,not_or];exact⟨h.2,Ne.symm h0⟩
theorem PgOk.bad {l r:List Int}{x:Int}(h:x=0∨x∈l):¬PgOk (l++(x::r)):=by
 rintro⟨h1,h2⟩
 rcases h with rfl | h
 ·exact h2 (by simp)
 exact(nodup_append.1 h1).2.2 x h x (by simp) rfl
theorem S85.alloc {s:Sch}{Fo:Fr}{l:List Int}{K:Hp}{n:Nat}(S:S85 s Fo l K n)(y z:ABlk):S85 s Fo l ((K.put n (some y)).put n (some z)) (n+1):=by
 obtain⟨k0,k1,k2,k3,k4,k5,k6,n7,top⟩:=S;refine⟨?_,?_,?_,?_,?_,?_,?_,by omega,?_⟩
 ·simp[show ¬ 0=n by omega,k0]
 ·simp[show ¬ 1=n by omega,k1]
 ·simp[show ¬ 2=n by omega,k2]
 ·simp[show ¬ 3=n by omega,k3]
 ·simp[show ¬ 4=n by omega,k4]
 ·simp[show ¬ 5=n by omega,k5]
 ·simp[show ¬ 6=n by omega,k6]
 intro b hb;simp[show ¬b=n by omega,top b (by omega)]
def Sch.pg (s:Sch)(i j:Nat):List Int:=(s.tables.take i).map (·.head)++(s.indexes.take j).map (·.root)
theorem pg_0 (s:Sch):s.pg 0 0=[]:=by simp[Sch.pg]
theorem pg_t {s:Sch}{i:Nat}(h:i<s.tables.length):s.pg (i+1) 0=s.pg i 0++[s.tables[i].head]:=by
 unfold Sch.pg;rw[take_add_one,getElem?_eq_getElem h];simp only[map_append,Option.toList,map_cons,map_nil,take_zero,append_nil]
theorem pg_i {s:Sch}{i j:Nat}(h:j<s.indexes.length):s.pg i (j+1)=s.pg i j++[s.indexes[j].root]:=by
 unfold Sch.pg;rw[take_add_one (l:=s.indexes),getElem?_eq_getElem h];simp only[map_append,Option.toList,map_cons,map_nil,append_assoc]
theorem pg_all (s:Sch):s.pg s.tables.length s.indexes.length=s.pages:=by simp[Sch.pg,Sch.pages]
theorem pg_tr {s:Sch}{i:Nat}(h:i<s.tables.length):∃r,s.pages=s.pg i 0++(s.tables[i].head::r):=by
 refine⟨(s.tables.drop (i+1)).map (·.head)++s.indexes.map (·.root),?_⟩;unfold Sch.pages Sch.pg
 conv=>lhs;rw[<-take_append_drop i s.tables,drop_eq_getElem_cons h]
 simp only[map_append,map_cons,map_nil,take_zero,append_nil,append_assoc,cons_append]
theorem pg_ir {s:Sch}{j:Nat}(h:j<s.indexes.length):∃r,s.pages=s.pg s.tables.length j++(s.indexes[j].root::r):=by
 refine⟨(s.indexes.drop (j+1)).map (·.root),?_⟩;unfold Sch.pages Sch.pg
 conv=>lhs;rw[<-take_append_drop j s.indexes,drop_eq_getElem_cons h]
 simp only[map_append,map_cons,append_assoc,take_length]
theorem pages85 (s:Sch) (hs:s.fine) (Fo:Fr) (K:Hp) (n:Nat) (f2:Fo.get 2=some (.ptr 1 0)) (f3:Fo.get 3=some (.ptr 3 0)) (S:S85 s Fo [] K n):
  CallR pG 109 [.yld 5,.ptr 4 0] K n (λ _ K' n'=>(PgOk s.pages/\S85 s Fo s.pages K' n')∨(¬PgOk s.pages/\X85 Fo K')):=by
 have ht:=hs.t;have hi:=hs.i;unfold lim at ht hi;refine CallR.of c109 (by simp[A109]) λ F hF=>?_;have k4:=S.k4;rw[eSch_c]at k4;simp[A109,B109,R109_0,hF,k4,Enc.len_ds];refine LoopV.of (λ t F K n ms=>∃i,t=s.tables.length - i/\i<=s.tables.length/\F.get 0=some (.yld 5)/\F.get 1=some (.ptr 4 0)/\F.get 8=some (eTbl.ds s.tables)/\F.get 9=some (.int .i64 (s.tables.length:Int))/\F.get 10=some (.int .i64 (i:Int))/\S85 s Fo (s.pg i 0) K n/\PgOk (s.pg i 0)/\ms=[]) s.tables.length ⟨0,by simp,by simp,by simp[hF],by simp[hF],by simp,by simp,by simp,by rw[pg_0];exact S,by simp[pg_0,PgOk],rfl⟩ ?_;clear S k4 hF F K n;rintro t F K n ms ⟨i,rfl,hil,f0,f1,f8,f9,f10,S,hP,rfl⟩
 by_cases hlt:i<s.tables.length
 ·have hx:=eTbl.ix (ik:=.i64) hlt;have hld:=λ H=>eTbl.ldN s.tables[i] (eTbl.l (s.tables.drop (i+1))) H;have S1:=S.alloc (.cells 4 [] [.int .u32 0,.str [],.cst (.slice none 0 0),.int .u32 0] .nil) (.cells 4 [] (eTbl.cells s.tables[i]) .nil);obtain⟨rr,hrr⟩:=pg_tr hlt;simp[L109_0,R109_1,R109_2,f8,f9,f10,hlt,hx,hld,Enc.av];generalize hK1:Tr.put (Tr.put K n _) n _=K1 at S1 ⊢;have kn:K1.get n=some (.cells 4 [] (eTbl.cells s.tables[i]) .nil):=by rw[<-hK1];simp
  rw[eTbl_c]at kn;clear hK1;simp[R109_3,f0,kn];refine page_yld s Fo (s.pg i 0) s.tables[i].head f2 f3 S1 (λ h0 hx K' n' S'=>?_) (λ hb K' n' X=>?_)
  ·simp[R109_4,f0,f1,f8,f9,f10,wrap_nat i (by omega)];refine⟨_,by omega,i+1,rfl,hlt,rfl,?_,?_⟩
   ·rw[pg_t hlt];exact S'
   rw[pg_t hlt];exact hP.add h0 hx
  simp;exact .inr ⟨by rw[hrr];exact PgOk.bad hb,X⟩
 obtain rfl:i=s.tables.length:=by omega
 have k4:=S.k4;rw[eSch_c]at k4;simp[L109_0,R109_1,f9,f10,R109_5,f1,k4,Enc.len_ds];refine LoopV.of (λ t F K n ms=>∃i,t=s.indexes.length - i/\i<=s.indexes.length/\F.get 0=some (.yld 5)/\F.get 1=some (.ptr 4 0)/\F.get 21=some (eIxd.ds s.indexes)/\F.get 22=some (.int .i64 (s.indexes.length:Int))/\F.get 23=some (.int .i64 (i:Int))/\S85 s Fo (s.pg s.tables.length i) K n/\PgOk (s.pg s.tables.length i)/\ms=[]) s.indexes.length ⟨0,by simp,by simp,by simp[f0],by simp[f1],by simp,by simp,by simp,S,hP,rfl⟩ ?_;clear S hP hil k4 f0 f1 f8 f9 f10 F K n;rintro t F K n ms ⟨i,rfl,hil,f0,f1,f8,f9,f10,S,hP,rfl⟩
 by_cases hlt:i<s.indexes.length
 ·have hx:=eIxd.ix (ik:=.i64) hlt;have hld:=λ H=>eIxd.ldN s.indexes[i] (eIxd.l (s.indexes.drop (i+1))) H;have S1:=S.alloc (.cells 6 [] [.int .u32 0,.int .u32 0,.str [],.cst (.slice none 0 0),.bool false,.int .u32 0] .nil) (.cells 6 [] (eIxd.cells s.indexes[i]) .nil);obtain⟨rr,hrr⟩:=pg_ir hlt;simp[L109_1,R109_6,R109_7,f8,f9,f10,hlt,hx,hld,Enc.av];generalize hK1:Tr.put (Tr.put K n _) n _=K1 at S1 ⊢;have kn:K1.get n=some (.cells 6 [] (eIxd.cells s.indexes[i]) .nil):=by rw[<-hK1];simp
  rw[eIxd_c]at kn;clear hK1;simp[R109_8,f0,kn];refine page_yld s Fo (s.pg s.tables.length i) s.indexes[i].root f2 f3 S1 (λ h0 hx K' n' S'=>?_) (λ hb K' n' X=>?_)
  ·simp[R109_9,f0,f1,f8,f9,f10,wrap_nat i (by omega)];refine⟨_,by omega,i+1,rfl,hlt,rfl,?_,?_⟩
   ·rw[pg_i hlt];exact S'
   rw[pg_i hlt];exact hP.add h0 hx
  simp;exact .inr ⟨by rw[hrr];exact PgOk.bad hb,X⟩
 obtain rfl:i=s.indexes.length:=by omega
 rw[pg_all]at S hP;simp[L109_1,R109_6,f9,f10];exact .inl ⟨hP,S⟩
theorem pages43 (s:Sch)(H:Hp)(n:Nat):CallR pG 78 [eSch.av s] H n (λ v K k=>v=.fn (.func 109) [] [.ptr n 0]/\K=H.put n (some (.cells 2 [] (eSch.cells s) .nil))/\k=n+1):=by
 refine CallR.of c78 (by simp[A78]) λ F hF=>?_;simp[A78,B78,R78_0,R78_1,hF,Enc.av]
structure S16 (s:Sch)(K:Hp)(n:Nat):Prop where
 k0:K.get 0=some (.cells 2 [] (eSch.cells s) .nil)
 k1:K.get 1=some (.cells 1 [] [.bool false] .nil)
 k6:K.get 6=some .defd
 n7:7<=n
 top:Top K n
theorem S16.alloc {s:Sch}{K:Hp}{n:Nat}(S:S16 s K n)(y z:ABlk):S16 s ((K.put n (some y)).put n (some z)) (n+1):=by
 obtain⟨k0,k1,k6,n7,top⟩:=S;refine⟨?_,?_,?_,by omega,?_⟩
 ·simp[show ¬ 0=n by omega,k0]
 ·simp[show ¬ 1=n by omega,k1]
 ·simp[show ¬ 6=n by omega,k6]
 intro b hb;simp[show ¬b=n by omega,top b (by omega)]
theorem S16.re {s:Sch}{K:Hp}{n:Nat}(S:S16 s K n):S16 s (K.put 1 (some (.cells 1 [] [.bool false] .nil))) n:=by
 obtain⟨k0,k1,k6,n7,top⟩:=S;refine⟨by simp[k0],by simp,by simp[k6],n7,λ b hb=>?_⟩;simp[show ¬b=1 by omega,top b hb]
def lastT (l:List Tbl)(i:Nat):Int:=match (l.take i).getLast? with
 | some t=>t.id
 | none=>0
theorem lastT_0 (l:List Tbl):lastT l 0=0:=by simp[lastT]
theorem lastT_s {l:List Tbl}{i:Nat}(h:i<l.length):lastT l (i+1)=l[i].id:=by
 unfold lastT;rw[take_add_one,getElem?_eq_getElem h];simp only[Option.toList,getLast?_concat]
structure TabOk (l:List Tbl)(i:Nat)(h:i<l.length):Prop where
 id:lastT l i<l[i].id
 name:NameOk l[i].name
 cols:ColsOk l[i].cols
 new:∀t∈l.take i,t.name≠l[i].name
def TabsOk (l:List Tbl):Prop:=∀i h,TabOk l i h
theorem may16a (s:Sch) (hs:s.fine) (F:Fr) (K:Hp) (n:Nat) (Q:QA) (S:S16 s K n) (f1:F.get 1=some (.ptr 0 0)) (f2:F.get 2=some (.ptr 1 0)) (f5:F.get 5=some (.int .u32 0)) (f39:F.get 39=some (eTbl.ds s.tables)) (f40:F.get 40=some (.int .i64 (s.tables.length:Int))) (f41:F.get 41=some (.int .i64 0))
  (hok:TabsOk s.tables->∀F' K' n',S16 s K' n'->F'.get 1=some (.ptr 0 0)->F'.get 2=some (.ptr 1 0)->Q .normal F' K' n' [.col 6])
  (hbad:¬TabsOk s.tables->∀F' K' n',S16 s K' n'->F'.get 2=some (.ptr 1 0)->Q .ret F' K' n' [.col 6]):LoopV L59_0 pG F K n [.col 6] (BlkQ 2 Q):=by
 have ht:=hs.t;unfold lim at ht;refine LoopV.of (λ t F K n ms=>∃i,t=s.tables.length - i/\i<=s.tables.length/\F.get 1=some (.ptr 0 0)/\F.get 2=some (.ptr 1 0)/\F.get 5=some (.int .u32 (lastT s.tables i))/\F.get 39=some (eTbl.ds s.tables)/\F.get 40=some (.int .i64 (s.tables.length:Int))/\F.get 41=some (.int .i64 (i:Int))/\S16 s K n/\(∀k,(h:k<s.tables.length)->k<i->TabOk s.tables k h)/\ms=[.col 6]) s.tables.length ⟨0,by simp,by simp,f1,f2,by simp[lastT_0,f5],f39,f40,by simp[f41],S,λ k _ h=>by omega,rfl⟩ ?_;clear S f1 f2 f5 f39 f40 f41 F K n;rintro t F K n ms ⟨i,rfl,hil,f1,f2,f5,f39,f40,f41,S,hP,rfl⟩
 by_cases hlt:i<s.tables.length
 ·have hx := eTbl.ix (ik:=.i64) hlt;have hld:=λ H=>eTbl.ldN s.tables[i] (eTbl.l (s.tables.drop (i+1))) H;have S1:=S.alloc (.cells 4 [] [.int .u32 0,.str [],.cst (.slice none 0 0),.int .u32 0] .nil) (.cells 4 [] (eTbl.cells s.tables[i]) .nil);have hsl:=eTbl.slHi (l:=s.tables) (i:=i) hil;simp[L59_0,R59_11,R59_12,f39,f40,f41,hlt,hx,hld,Enc.av];generalize hK1:Tr.put (Tr.put K n _) n _=K1 at S1 ⊢;have kn:K1.get n=some (.cells 4 [] (eTbl.cells s.tables[i]) .nil):=by rw[<-hK1];simp
  clear hK1;have kn':=kn;rw[eTbl_c]at kn';have k0:=S1.k0;rw[eSch_c]at k0;have no:¬TabOk s.tables i hlt->¬TabsOk s.tables:=λ h h2=>h (h2 i hlt);have k1:=S1.k1;have hne:∀b,b<n->¬b=n:=λ b h=>by omega
  by_cases h1:s.tables[i].id<=lastT s.tables i
  ·simp[R59_13,kn',f5,h1,R59_14,f2,k1];refine hbad (no λ h=>absurd h.id (by omega)) _ _ _ S1.re ?_;simp[f2]
  simp[R59_13,kn',f5,h1];refine CalV.pure (name44 s.tables[i].name) ?_
  by_cases h2:NameOk s.tables[i].name
  ·simp[h2,kn'];refine CalV.pure (may45 s.tables[i].cols) ?_
   by_cases h3:ColsOk s.tables[i].cols
   ·simp[h3,f1,k0,eSl,oev,hsl];refine CalV.same (conTbl (p:=λ d=>decide (d.name=s.tables[i].name)) (first:=[]) (cap:=[.ptr n 0]) (s.tables.take i) (by simp;unfold lim;omega) λ d _=>tbl47 d s.tables[i] n K1 (n+1) kn S1.top) ?_
    by_cases h4:∃t∈s.tables.take i,t.name=s.tables[i].name
    ·have h4':((s.tables.take i).any λ d=>decide (d.name=s.tables[i].name))=true:=by simpa using h4
     simp[h4',R59_14,f2,k1];refine hbad (no λ h=>?_) _ _ _ S1.re ?_
     ·obtain⟨t,ht1,ht2⟩:=h4;exact h.new t ht1 ht2
     simp[f2]
    have h4':((s.tables.take i).any λ d=>decide (d.name=s.tables[i].name))=false:=by
     rw[Bool.eq_false_iff];intro h;exact h4 (by simpa using h)
    simp[h4',R59_15,R59_16,kn',f1,f2,f39,f40,f41,wrap_nat i (by omega)];refine⟨_,by omega,i+1,rfl,hlt,by simp[lastT_s hlt],rfl,S1,λ k h hk=>?_⟩
    by_cases e:k=i
    ·subst e;exact⟨by omega,h2,h3,λ t ht1 ht2=>h4 ⟨t,ht1,ht2⟩⟩
    exact hP k h (by omega)
   simp[h3,R59_14,f2,k1];refine hbad (no λ h=>h3 h.cols) _ _ _ S1.re ?_;simp[f2]
  simp[h2,R59_14,f2,k1];refine hbad (no λ h=>h2 h.name) _ _ _ S1.re ?_;simp[f2]
 obtain rfl:i=s.tables.length:=by omega
 simp[L59_0,R59_11,f40,f41];refine hok (λ k h=>hP k h h) _ _ _ S ?_ ?_
 ·simp[f1]
 simp[f2]
def lastI (l:List Ixd)(i:Nat):Int:=match (l.take i).getLast? with
 | some t=>t.id
 | none=>0
theorem lastI_0 (l:List Ixd):lastI l 0=0:=by simp[lastI]
theorem lastI_s {l:List Ixd}{i:Nat}(h:i<l.length):lastI l (i+1)=l[i].id:=by
 unfold lastI;rw[take_add_one,getElem?_eq_getElem h];simp only[Option.toList,getLast?_concat]
structure IxOk (s:Sch)(i:Nat)(h:i<s.indexes.length):Prop where
 id:lastI s.indexes i<s.indexes[i].id
 name:NameOk s.indexes[i].name
 table:(s.table s.indexes[i].table).2=true
 cols:PlacesOk (s.table s.indexes[i].table).1 s.indexes[i].cols
 new:∀t∈s.indexes.take i,t.name≠s.indexes[i].name
def IxsOk (s:Sch):Prop:=∀i h,IxOk s i h
theorem may16b (s:Sch) (hs:s.fine) (F:Fr) (K:Hp) (n:Nat) (Q:QA) (S:S16 s K n) (f1:F.get 1=some (.ptr 0 0)) (f2:F.get 2=some (.ptr 1 0)) (f5:F.get 5=some (.int .u32 0)) (f39:F.get 74=some (eIxd.ds s.indexes)) (f40:F.get 75=some (.int .i64 (s.indexes.length:Int))) (f41:F.get 76=some (.int .i64 0))
  (hok:IxsOk s->∀F' K' n',S16 s K' n'->F'.get 1=some (.ptr 0 0)->F'.get 2=some (.ptr 1 0)->Q .normal F' K' n' [.col 6])
  (hbad:¬IxsOk s->∀F' K' n',S16 s K' n'->F'.get 2=some (.ptr 1 0)->Q .ret F' K' n' [.col 6]):LoopV L59_1 pG F K n [.col 6] (BlkQ 4 Q):=by
 have ht:=hs.i;unfold lim at ht;refine LoopV.of (λ t F K n ms=>∃i,t=s.indexes.length - i/\i<=s.indexes.length/\F.get 1=some (.ptr 0 0)/\F.get 2=some (.ptr 1 0)/\F.get 5=some (.int .u32 (lastI s.indexes i))/\F.get 74=some (eIxd.ds s.indexes)/\F.get 75=some (.int .i64 (s.indexes.length:Int))/\F.get 76=some (.int .i64 (i:Int))/\S16 s K n/\(∀k,(h:k<s.indexes.length)->k<i->IxOk s k h)/\ms=[.col 6]) s.indexes.length ⟨0,by simp,by simp,f1,f2,by simp[lastI_0,f5],f39,f40,by simp[f41],S,λ k _ h=>by omega,rfl⟩ ?_;clear S f1 f2 f5 f39 f40 f41 F K n;rintro t F K n ms ⟨i,rfl,hil,f1,f2,f5,f39,f40,f41,S,hP,rfl⟩
 by_cases hlt:i<s.indexes.length
 ·have hx := eIxd.ix (ik:=.i64) hlt;have hld:=λ H=>eIxd.ldN s.indexes[i] (eIxd.l (s.indexes.drop (i+1))) H;have S1:=S.alloc (.cells 6 [] [.int .u32 0,.int .u32 0,.str [],.cst (.slice none 0 0),.bool false,.int .u32 0] .nil) (.cells 6 [] (eIxd.cells s.indexes[i]) .nil);have hsl:=eIxd.slHi (l:=s.indexes) (i:=i) hil;simp[L59_1,R59_19,R59_20,f39,f40,f41,hlt,hx,hld,Enc.av];generalize hK1:Tr.put (Tr.put K n _) n _=K1 at S1 ⊢;have kn:K1.get n=some (.cells 6 [] (eIxd.cells s.indexes[i]) .nil):=by rw[<-hK1];simp
  clear hK1;have kn':=kn;rw[eIxd_c]at kn';have k0:=S1.k0;rw[eSch_c]at k0;have no:¬IxOk s i hlt->¬IxsOk s:=λ h h2=>h (h2 i hlt);have h23:=table23 s hs s.indexes[i].table;have hav:eSch.av s=.agg [eTbl.ds s.tables,eIxd.ds s.indexes] 2:=rfl;rw[hav]at h23;simp[R59_21,f1,k0,kn'];refine CalV.pure h23 ?_;have hcl:(s.table s.indexes[i].table).1.cols.length<=lim:=firstD_len (Q:=λ t:Tbl=>t.cols.length<=lim) (by simp[Tbl.zero,lim]) hs.tc;have h48:=λ c=>places48 (s.table s.indexes[i].table).1 c hcl;generalize hT:s.table s.indexes[i].table=T at h48 hcl ⊢;obtain⟨t,ok⟩:=T;have S2:=S1.alloc (.cells 4 [] [.int .u32 0,.str [],.cst (.slice none 0 0),.int .u32 0] .nil) (.cells 4 [] (eTbl.cells t) .nil);simp[Enc.av];generalize hK2:Tr.put (Tr.put K1 (n+1) _) (n+1) _=K2 at S2 ⊢;have kn2:K2.get n=some (.cells 6 [] (eIxd.cells s.indexes[i]) .nil):=by rw[<-hK2];simp[kn]
  have kt:K2.get (n+1)=some (.cells 4 [] (eTbl.cells t) .nil):=by rw[<-hK2];simp
  clear hK2 kn kn' k0 S1;have kn':=kn2;rw[eIxd_c]at kn';have k0:=S2.k0;rw[eSch_c]at k0;have k1:=S2.k1;have h48':=h48 s.indexes[i].cols;simp only[Enc.av]at h48'
  by_cases h1:s.indexes[i].id<=lastI s.indexes i
  ·simp[R59_22,kn',f5,h1,R59_23,f2,k1];refine hbad (no λ h=>absurd h.id (by omega)) _ _ _ S2.re ?_;simp[f2]
  simp[R59_22,kn',f5,h1];refine CalV.pure (name44 s.indexes[i].name) ?_
  by_cases h2:NameOk s.indexes[i].name
  ·cases ok with
   | false =>
    simp[h2,R59_23,f2,k1];refine hbad (no λ h=>?_) _ _ _ S2.re ?_
    ·have:=h.table;rw[hT]at this;simp at this
    simp[f2]
   | true =>
   simp[h2,kn',kt];refine CalV.pure h48' ?_
   by_cases h3:PlacesOk t s.indexes[i].cols
   ·simp[h3,f1,k0,eSl,oev,hsl];refine CalV.same (conIxd (p:=λ d=>decide (d.name=s.indexes[i].name)) (first:=[]) (cap:=[.ptr n 0]) (s.indexes.take i) (by simp;unfold lim;omega) λ d _=>ixd50 d s.indexes[i] n K2 (n+1+1) kn2 S2.top) ?_
    by_cases h4:∃t∈s.indexes.take i,t.name=s.indexes[i].name
    ·have h4':((s.indexes.take i).any λ d=>decide (d.name=s.indexes[i].name))=true:=by simpa using h4
     simp[h4',R59_23,f2,k1];refine hbad (no λ h=>?_) _ _ _ S2.re ?_
     ·obtain⟨t,ht1,ht2⟩:=h4;exact h.new t ht1 ht2
     simp[f2]
    have h4':((s.indexes.take i).any λ d=>decide (d.name=s.indexes[i].name))=false:=by
     rw[Bool.eq_false_iff];intro h;exact h4 (by simpa using h)
    simp[h4',R59_24,R59_25,kn',f1,f2,f39,f40,f41,wrap_nat i (by omega)];refine⟨_,by omega,i+1,rfl,hlt,by simp[lastI_s hlt],rfl,S2,λ k h hk=>?_⟩
    by_cases e:k=i
    ·subst e;exact⟨by omega,h2,by rw[hT],by rw[hT];exact h3,λ t ht1 ht2=>h4 ⟨t,ht1,ht2⟩⟩
    exact hP k h (by omega)
   simp[h3,R59_23,f2,k1];refine hbad (no λ h=>h3 ?_) _ _ _ S2.re ?_
   ·have:=h.cols;rwa [hT]at this
   simp[f2]
  simp[h2,R59_23,f2,k1];refine hbad (no λ h=>h2 h.name) _ _ _ S2.re ?_;simp[f2]
 obtain rfl:i=s.indexes.length:=by omega
 simp[L59_1,R59_19,f40,f41];refine hok (λ k h=>hP k h h) _ _ _ S ?_ ?_
 ·simp[f1]
 simp[f2]
@[simp] theorem map_len (b:Nat):(AV.map b).len=1:=rfl
@[simp] theorem map_cells (b:Nat):(AV.map b).cells=[.map b]:=rfl
@[simp] theorem map_one (b:Nat):(AV.map b).one=true:=rfl
structure SchOk (s:Sch):Prop where
 t:s.tables.length<=32
 i:s.indexes.length<=64
 pages:PgOk s.pages
 tabs:TabsOk s.tables
 ixs:IxsOk s
theorem may16 (s:Sch) (hs:s.fine):FnPure pG 59 [eSch.av s] (.bool (decide (SchOk s))):=by
 refine pureV c59 (by simp) (by simp) (by simp[A59]) λ F hF=>?_
 by_cases h1:32<s.tables.length
 ·have:¬SchOk s:=λ h=>absurd h.t (by omega);simp[A59,B59,R59_0,R59_1,R59_2,hF,Enc.av,eSch_c,Enc.len_ds,show (32:Int)<(s.tables.length:Int) by omega];exact .bool (by simp[this])
 have h1':¬(32:Int)<(s.tables.length:Int):=by omega
 by_cases h2:64<s.indexes.length
 ·have:¬SchOk s:=λ h=>absurd h.i (by omega);simp[A59,B59,R59_0,R59_1,R59_2,hF,Enc.av,eSch_c,Enc.len_ds,h1',show (64:Int)<(s.indexes.length:Int) by omega];exact .bool (by simp[this])
 have h2':¬(64:Int)<(s.indexes.length:Int):=by omega
 simp[A59,B59,R59_0,R59_1,hF,Enc.av,eSch_c,Enc.len_ds,h1',h2',R59_3,R59_4,eMkmap];refine CalV.of (pages43 s _ _) ?_;rintro v K n ⟨rfl,rfl,rfl⟩;simp;refine RngV.of ?_;generalize hF1:(Fp 24 _ _:Fr)=F1;have f1:F1.get 1=some (.ptr 0 0):=by rw[<-hF1];simp
 have f2:F1.get 2=some (.ptr 1 0):=by rw[<-hF1];simp
 have f3:F1.get 3=some (.ptr 3 0):=by rw[<-hF1];simp
 clear hF1 hF F;refine CallR.mono (pages85 s hs F1 _ _ f2 f3 ?_) ?_
 ·refine⟨by simp[eSch_c],by simp,by simp[mpE],by simp,by simp,by simp,by simp,by omega,λ b hb=>?_⟩;simp[show ¬b=0 by omega,show ¬b=1 by omega,show ¬b=2 by omega,show ¬b=3 by omega,show ¬b=4 by omega,show ¬b=5 by omega,show ¬b=6 by omega]
 rintro v K n (⟨hp,S⟩ | ⟨hp,X⟩)
 ·refine⟨_,_,_,_,_,_,_,S.k5,by simp,by simp,?_⟩
  have S1:S16 s (K.put 5 none) n:=⟨by simp[S.k0],by simp[S.k1],by simp[S.k6],S.n7,λ b hb=>by
   have:=S.n7;simp[show ¬b=5 by omega,S.top b hb]⟩
  clear S;generalize Tr.put K 5 none=K1 at S1 ⊢;have k0:=S1.k0;rw[eSch_c]at k0;simp[R59_9,R59_10,f1,k0,Enc.len_ds];refine may16a s hs _ _ _ _ S1 (by simp[f1]) (by simp[f2]) (by simp) (by simp) (by simp) (by simp) (λ ht F' K' n' S' g1 g2=>?_) (λ ht F' K' n' S' g2=>?_)
  ·have k0:=S'.k0;rw[eSch_c]at k0;simp[R59_17,R59_18,g1,k0,Enc.len_ds];refine may16b s hs _ _ _ _ S' (by simp[g1]) (by simp[g2]) (by simp) (by simp) (by simp) (by simp) (λ hi F3 K3 n3 S3 w1 w2=>?_) (λ hi F3 K3 n3 S3 w2=>?_)
   ·have:SchOk s:=⟨by omega,by omega,hp,ht,hi⟩;have k1:=S3.k1;have k6:=S3.k6;simp[R59_26,w2,k1,k6];exact .bool (by simp[this])
   have:¬SchOk s:=λ h=>hi h.ixs;have k1:=S3.k1;have k6:=S3.k6;simp[w2,k1,k6];exact .bool (by simp[this])
  have:¬SchOk s:=λ h=>ht h.tabs;have k1:=S'.k1;have k6:=S'.k6;simp[g2,k1,k6];exact .bool (by simp[this])
 obtain⟨k1,⟨nt,G,ps,a,b,k5⟩,k6⟩:=X;have:¬SchOk s:=λ h=>hp h.pages;refine⟨_,_,_,_,_,_,_,k5,by simp,by simp,?_⟩;simp[f2,k1,k6];exact .bool (by simp[this])
end Go.Abs
namespace Go.Abs
open List
open Go.Proofs
open Classical
set_option maxRecDepth 100000
def ColP (l:List Col)(i:Nat):Prop:=∀h:i<l.length,NameOk l[i].name/\(1<=l[i].kind/\l[i].kind<=3)/\∀k (hk:k<l.length),i<k->l[k].name≠l[i].name
theorem colsOk_iff (l:List Col):ColsOk l↔l≠[]/\l.length<=16/\∀i,ColP l i:=by
 refine⟨λ⟨h1,h2,h3⟩=>⟨h1,h2,λ i h=>⟨(h3 i h).1,(h3 i h).2.1,λ k hk hik e=>(h3 k hk).2.2 i hik e.symm⟩⟩,λ⟨h1,h2,h3⟩=>⟨h1,h2,λ i h=>⟨(h3 i h).1,(h3 i h).2.1,λ j hj e=>?_⟩⟩⟩;exact(h3 j (by omega)).2.2 i h hj e.symm
theorem cols75a (l:List Col)(hl:l.length<=16)(i:Nat)(hi:i<l.length)(F:Fr)(K:Hp)(n:Nat)(Q:QA)(f0:F.get 0=some (eCol.ds l))(f3:F.get 3=some (.int .i64 (i:Int)))(f5:F.get 5=some (.int .i64 ((i+1:Nat):Int)))
  (hbad:¬(∀k (hk:k<l.length),i<k->l[k].name≠l[i].name)->∀F,F.get 2=some (.bool false)->Q .ret F K n [])
  (hok:(∀k (hk:k<l.length),i<k->l[k].name≠l[i].name)->∀F,F.get 0=some (eCol.ds l)->F.get 3=some (.int .i64 (i:Int))->Q .normal F K n []):LoopV L37_0 pG F K n [] (BlkQ 2 Q):=by
 refine LoopV.of (λ g F K' n' ms=>∃k:Nat,g=l.length - k/\i+1<=k/\k<=l.length/\F.get 0=some (eCol.ds l)/\F.get 3=some (.int .i64 (i:Int))/\F.get 5=some (.int .i64 (k:Int))/\K'=K/\n'=n/\ms=[]/\∀j (hj:j<l.length),i<j->j<k->l[j].name≠l[i].name) (l.length - (i+1)) ⟨i+1,rfl,by omega,by omega,f0,f3,f5,rfl,rfl,rfl,λ j hj h1 h2=>by omega⟩ ?_;clear f0 f3 f5 F;rintro g F K' n' ms ⟨k,rfl,hk1,hk,f0,f3,f5,rfl,rfl,rfl,hj⟩
 by_cases hlt:k<l.length
 ·have hx:=eCol.ix (ik:=.i64) hlt;have hy:=eCol.ix (ik:=.i64) hi;rw[eCol_c]at hx hy;simp only[L37_0,R37_9,R37_10];simp[f0,f5,Enc.len_ds,hlt];refine DrwV.of (ce0_ok (P:=pG)) ?_
  by_cases he:l[k].name=l[i].name
  ·simp[clearF_get,f0,f3,f5,hx,hy,he,R37_11];exact hbad (λ h=>h k hlt (by omega) he) _ (by simp)
  simp[clearF_get,f0,f3,f5,hx,hy,he,R37_12,wrap_nat k (by omega)];refine⟨_,by omega,k+1,rfl,by omega,by omega,rfl,λ j hjl h1 h2=>?_⟩
  by_cases e:j=k
  ·subst e;exact he
  exact hj j hjl h1 (by omega)
 obtain rfl:k=l.length:=by omega
 simp[L37_0,R37_9,f0,f5,Enc.len_ds];exact hok (λ k hk h=>hj k hk h hk) _ (by simp[f0]) (by simp[f3])
theorem cols75 (l:List Col):FnPure pG 37 [eCol.ds l] (.bool (decide (ColsOk l))):=by
 refine pureV c37 (by simp) (by simp) (by simp[A37]) λ F hF=>?_
 by_cases h0:l=[]
 ·have:¬ColsOk l:=λ h=>h.1 h0;simp only[this,decide_false];subst h0;simp[A37,B37,R37_0,R37_1,R37_2,hF,Enc.len_ds];exact .bool rfl
 have hp : 0<l.length:=length_pos_iff.2 h0
 by_cases h16:l.length<=16
 ·have hC : ColsOk l↔∀i,ColP l i:=by rw[colsOk_iff];exact⟨λ h=>h.2.2,λ h=>⟨h0,h16,h⟩⟩
  simp[A37,B37,R37_0,R37_1,R37_3,hF,Enc.len_ds,show ¬(l.length:Int)<1 by omega,show ¬(16:Int)<(l.length:Int) by omega,show ¬ 16<l.length by omega];refine LoopV.of (λ t F K n ms=>∃i,t=l.length - i/\i<=l.length/\F.get 0=some (eCol.ds l)/\F.get 3=some (.int .i64 (i:Int))/\ms=[]/\∀j,j<i->ColP l j) l.length ⟨0,by simp,by omega,by simp[hF],by simp,rfl,λ j h=>by omega⟩ ?_;clear hF F;rintro t F K n ms ⟨i,rfl,hi,f0,f3,rfl,hj⟩
  by_cases hlt:i<l.length
  ·have hx:=eCol.ix (ik:=.i64) hlt;rw[eCol_c]at hx;have no:¬ColP l i->¬ColsOk l:=λ h hc=>h (hC.1 hc i);simp[L37_1,R37_4,R37_5,f0,f3,Enc.len_ds,hlt,hx,R37_6];refine CalV.pure (name74 l[i].name) ?_
   by_cases h1:NameOk l[i].name
   ·by_cases h2:1<=l[i].kind/\l[i].kind<=3
    ·have hk:l[i].kind=1∨l[i].kind=2∨l[i].kind=3:=by omega
     rcases hk with hk | hk | hk
     all_goals simp[h1,hk,R37_8,f3,wrap_nat i (by omega)]
     all_goals refine cols75a l h16 i hlt _ K n _ (by simp[f0]) (by simp[f3]) (by simp) (λ hb F' f2=>?_) λ hg F' f0 f3=>?_
     all_goals first
      | (simp[f2];exact .bool (by simp[no λ h=>hb (h hlt).2.2]))
      | (simp[R37_13,f3,wrap_nat i (by omega)];refine⟨_,by omega,i+1,rfl,hlt,f0,rfl,λ j hji=>?_⟩;by_cases e:j=i;(subst e;exact λ h=>⟨h1,h2,hg⟩);(exact hj j (by omega)))
    simp[h1,show ¬l[i].kind=1 by omega,show ¬l[i].kind=2 by omega,show ¬l[i].kind=3 by omega,R37_7];exact .bool (by simp[no λ h=>h2 (h hlt).2.1])
   simp[h1,R37_7];exact .bool (by simp[no λ h=>h1 (h hlt).1])
  obtain rfl:i=l.length:=by omega
  have:ColsOk l:=hC.2 λ j h=>hj j h h;simp[L37_1,R37_4,R37_14,f0,f3,Enc.len_ds,this];exact .bool rfl
 have:¬ColsOk l:=λ h=>h16 h.2.1;simp only[this,decide_false];simp[A37,B37,R37_0,R37_1,R37_2,hF,Enc.len_ds,show ¬(l.length:Int)<1 by omega,show (16:Int)<(l.length:Int) by omega,show 16<l.length by omega];exact .bool rfl
theorem tblLd (t:Tbl)(r:List AV)(H:Hp):cLoadN 4 (.dp (.int .u32 t.id::.str t.name::eCol.ds t.cols::.int .u32 t.head::r)) H=.val (eTbl.av t):=eTbl.ldN t r H
theorem take_snoc {α:Type}{l:List α}{i:Nat}(h:i<l.length):l.take (i+1)=l.take i++[l[i]]:=by
 rw[take_add_one,getElem?_eq_getElem h];rfl
theorem own_ldq {H:Hp}{b i:Nat}{k:ABlk}{L:List AV}{v:AV}(hb:H.get b=some k)(ho:OwnB k L)(hv:L[i]?=some v):cLoad1 (.ptr b i) H=.val v:=by
 obtain⟨h1,h2⟩:=List.getElem?_eq_some_iff.1 hv;rw[own_ld hb ho h1,h2]
theorem OwnS.ld {H:Hp}{n:Nat}{v y:AV}{l:List AV}{len sz i o:Nat}{ik:IntKind}(h:OwnS H n v l len sz)(hi:i<len)(hv:l[o]?=some y):∃b,cIxa sz v (.int ik (i:Int))=.val (.ptr b (i*sz))/\cLoad1 (.ptr b o) H=.val y:=by
 obtain⟨_,⟨_,h0⟩ | ⟨b,k,rfl,hb,hk,ho⟩⟩:=h
 ·omega
 exact⟨b,by rw[cIxa_sl hi,Nat.zero_add],own_ldq hk ho hv⟩
theorem table76 (s:Sch) (hs:s.fine) (i0:Int):FnPure pG 38 [eSch.av s,.int .u32 i0] (.tup [eTbl.av (s.table i0).1,.bool (s.table i0).2]):=by
 have ht:=hs.t;unfold lim at ht;refine pureV c38 (by simp) (by simp) (by simp[A38]) λ F hF=>?_;simp[A38,B38,R38_0,R38_1,hF,Enc.av];refine LoopV.of (λ q F K n ms=>∃i,q=s.tables.length - i/\i<=s.tables.length/\F.get 1=some (.int .u32 i0)/\F.get 2=some (.ptr 0 0)/\F.get 4=some (.ptr 1 0)/\F.get 6=some (.int .i64 (i:Int))/\K.get 0=some (.cells 2 [] (eSch.cells s) .nil)/\K.get 1=some (.cells 4 [] [(.int .u32 0),(.str []),(.cst (.slice none 0 0)),(.int .u32 0)] .nil)/\ms=[]/\∀j (_:j<i) (h:j<s.tables.length),s.tables[j].id≠i0) s.tables.length ⟨0,by simp[hF]⟩ ?_;clear hF F;rintro q F K n ms ⟨i,rfl,hi,f1,f2,f4,f6,k0,k1,rfl,hj⟩;rw[eSch_c]at k0
 by_cases hlt:i<s.tables.length
 ·have hx:=eTbl.ix (ik:=.i64) hlt
  by_cases he:s.tables[i].id=i0
  ·subst he
   have hf:s.table s.tables[i].id=(s.tables[i],true):=by
    unfold Sch.table firstD;rw[find?_eq_some_iff_getElem.2 ⟨by simp,i,hlt,rfl,λ j hj'=>by simpa using hj j hj' (by omega)⟩]
   rw[eTbl_c]at hx;simp[L38_0,R38_2,R38_3,R38_4,f1,f2,f4,f6,k0,k1,Enc.len_ds,hlt,hx,tblLd,Enc.av,eTbl_c,hf];exact .pure _ (by simp)
  rw[eTbl_c]at hx;simp[L38_0,R38_2,R38_3,R38_5,f1,f2,f4,f6,k0,Enc.len_ds,hlt,hx,he,wrap_nat i (by omega)];refine⟨_,by omega,i+1,rfl,hlt,rfl,?_⟩;refine⟨by rw[eSch_c],k1,λ j hj' h=>?_⟩
  by_cases e:j=i
  ·subst e;exact he
  exact hj j (by omega) h
 obtain rfl:i=s.tables.length:=by omega
 have hf:s.table i0=(Tbl.zero,false):=by
  unfold Sch.table firstD
  rw[find?_eq_none.2 λ x hx=>by
   obtain⟨j,h,rfl⟩:=getElem_of_mem hx;simpa using hj j h h]
 simp[L38_0,R38_2,R38_6,f2,f4,f6,k0,k1,Enc.len_ds,hf,Enc.av];exact .tup _ _ (.cons _ _ _ _ (.agg _ _ _ (zerT _)) (.cons _ _ _ _ (.pure _ (by simp)) .nil))
def PlP (n:Int)(l:List Int)(i:Nat):Prop:=∀h:i<l.length,0<=l[i]/\l[i]<n/\∀k (hk:k<i),(l[k]'(by omega))≠l[i]
theorem placesOk_iff (t:Tbl)(l:List Int):PlacesOk t l↔l≠[]/\l.length<=16/\∀i,PlP (t.cols.length:Int) l i:=by
 refine⟨λ⟨h1,h2,h3⟩=>⟨h1,h2,λ i h=>⟨(h3 i h).1,(h3 i h).2.1,λ k hk e=>(h3 i h).2.2 ?_⟩⟩,λ⟨h1,h2,h3⟩=>⟨h1,h2,λ i h=>⟨(h3 i h).1,(h3 i h).2.1,λ hm=>?_⟩⟩⟩
 ·rw[<-e];exact mem_take_iff_getElem.2 ⟨k,by omega,rfl⟩
 obtain⟨k,hk,e⟩:=mem_take_iff_getElem.1 hm;exact(h3 i h).2.2 k (by omega) e
theorem places77a (l:List Int)(hl:l.length<=lim)(i:Nat)(hi:i<l.length)(n0:Int)(F:Fr)(K:Hp)(n:Nat)(Q:QA)(f0:F.get 0=some (.int .i64 n0))(f1:F.get 1=some (eInt.ds l))(f5:F.get 5=some (.int .i64 (i:Int)))(f6:F.get 6=some (.int .i64 0))
  (hbad:¬(∀k (hk:k<i),(l[k]'(by omega))≠l[i])->∀F,F.get 4=some (.bool false)->Q .ret F K n [])
  (hok:(∀k (hk:k<i),(l[k]'(by omega))≠l[i])->∀F,F.get 0=some (.int .i64 n0)->F.get 1=some (eInt.ds l)->F.get 5=some (.int .i64 (i:Int))->Q .normal F K n []):LoopV L39_0 pG F K n [] (BlkQ 2 Q):=by
 unfold lim at hl;refine LoopV.of (λ g F K' n' ms=>∃k:Nat,g=i - k/\k<=i/\F.get 0=some (.int .i64 n0)/\F.get 1=some (eInt.ds l)/\F.get 5=some (.int .i64 (i:Int))/\F.get 6=some (.int .i64 (k:Int))/\K'=K/\n'=n/\ms=[]/\∀j (hj:j<i),j<k->(l[j]'(by omega))≠l[i]) i ⟨0,by simp,by omega,f0,f1,f5,by simpa using f6,rfl,rfl,rfl,λ j hj h1=>by omega⟩ ?_;clear f0 f1 f5 f6 F;rintro g F K' n' ms ⟨k,rfl,hk,f0,f1,f5,f6,rfl,rfl,rfl,hj⟩
 by_cases hlt:k<i
 ·have hx:=eInt.ix (l:=l) (i:=k) (ik:=.i64) (by omega);have hy:=eInt.ix (ik:=.i64) hi;rw[eInt_c]at hx hy;simp only[L39_0,R39_6,R39_7];simp[f5,f6,hlt];refine DrwV.of (ce0_ok (P:=pG)) ?_
  by_cases he:(l[k]'(by omega))=l[i]
  ·simp[clearF_get,f1,f5,f6,hx,hy,he,R39_8];exact hbad (λ h=>h k hlt he) _ (by simp)
  simp[clearF_get,f1,f5,f6,hx,hy,he,R39_9,wrap_nat k (by omega)];refine⟨_,by omega,k+1,rfl,by omega,f0,rfl,λ j hjl h1=>?_⟩
  by_cases e:j=k
  ·subst e;exact he
  exact hj j hjl (by omega)
 obtain rfl:k=i:=by omega
 simp[L39_0,R39_6,f5,f6];exact hok (λ k hk=>hj k hk hk) _ (by simp[f0]) (by simp[f1]) (by simp[f5])
theorem places77 (t:Tbl) (l:List Int) (hl:l.length<=lim):FnPure pG 39 [.int .i64 (t.cols.length:Int),eInt.ds l] (.bool (decide (PlacesOk t l))):=by
 have hl':=hl;unfold lim at hl;refine pureV c39 (by simp) (by simp) (by simp[A39]) λ F hF=>?_;have hC:=placesOk_iff t l;generalize (t.cols.length:Int)=n0 at *;simp[A39,B39,R39_0,R39_1,hF];refine LoopV.of (λ t F K n ms=>∃i,t=l.length - i/\i<=l.length/\F.get 0=some (.int .i64 n0)/\F.get 1=some (eInt.ds l)/\F.get 5=some (.int .i64 (i:Int))/\ms=[]/\∀j,j<i->PlP n0 l j) l.length ⟨0,by simp,by omega,by simp[hF],by simp[hF],by simp,rfl,λ j h=>by omega⟩ ?_;clear hF F;rintro g F K n ms ⟨i,rfl,hi,f0,f1,f5,rfl,hj⟩
 by_cases hlt:i<l.length
 ·have hx:=eInt.ix (ik:=.i64) hlt;rw[eInt_c]at hx;have no:¬PlP n0 l i->¬PlacesOk t l:=λ h hc=>h ((hC.1 hc).2.2 i)
  by_cases h1:l[i]<0
  ·simp[L39_1,R39_2,R39_3,R39_4,f0,f1,f5,Enc.len_ds,hlt,hx,h1];exact .bool (by simp[no λ h=>by have:=(h hlt).1;omega])
  by_cases h2:n0<=l[i]
  ·simp[L39_1,R39_2,R39_3,R39_4,f0,f1,f5,Enc.len_ds,hlt,hx,h1,h2];exact .bool (by simp[no λ h=>by have:=(h hlt).2.1;omega])
  simp[L39_1,R39_2,R39_3,R39_5,f0,f1,f5,Enc.len_ds,hlt,hx,h1,h2];refine places77a l hl' i hlt n0 _ K n _ (by simp[f0]) (by simp[f1]) (by simp[f5]) (by simp) (λ hb F' f4=>?_) λ hg F' f0 f1 f5=>?_
  ·simp[f4];exact .bool (by simp[no λ h=>hb (h hlt).2.2])
  simp[R39_10,f5,wrap_nat i (by omega)];refine⟨_,by omega,i+1,rfl,hlt,f0,f1,rfl,λ j hji=>?_⟩
  by_cases e:j=i
  ·subst e;exact λ h=>⟨by omega,by omega,hg⟩
  exact hj j (by omega)
 obtain rfl:i=l.length:=by omega
 have hall:∀j,PlP n0 l j:=λ j h=>hj j h h
 by_cases h0:0<l.length
 ·have hn:l≠[]:=length_pos_iff.1 h0;simp[L39_1,R39_2,R39_11,f1,f5,Enc.len_ds,h0];refine .bool ?_;rw[Bool.eq_iff_iff,decide_eq_true_eq,decide_eq_true_eq,hC];simp only[hn,hall,ne_eq,not_false_eq_true,true_and,implies_true,and_true];omega
 have hn:l=[]:=length_eq_zero_iff.1 (by omega);have hno:¬PlacesOk t l:=λ h=>h.1 hn;simp[L39_1,R39_2,R39_11,f1,f5,Enc.len_ds,h0];exact .bool (by simp[hno])
def eU:Enc Int 1:=⟨λ i=>[.int .u32 i],λ _=>rfl,λ _=>by simp,λ _=>by simp[allOne,AV.one]⟩
theorem eU_c (i:Int):eU.cells i=[.int .u32 i]:=rfl
structure PgF (s:Sch)(l:List Int)(x:AV)(F:Fr)(K:Hp)(n:Nat):Prop where
 f1:F.get 1=some (.ptr 0 0)
 f3:F.get 3=some x
 k0:K.get 0=some (.cells 2 [] (eSch.cells s) .nil)
 ow:OwnS K n x (eU.l l) l.length 1
 dx:∀b,blk x=some b->1<=b
 n1:1<=n
theorem PgF.app {s:Sch}{l:List Int}{x:AV}{F:Fr}{K:Hp}{n:Nat}(S:PgF s l x F K n)(hl:l.length<=4194304)(p:Int){pd:Pd}{r:List (Option GO)}{Q:QA}{F':Fr}
  (hgo:∀K' x',(∀F2:Fr,F2.get 1=some (.ptr 0 0)->F2.get 3=some x'->PgF s (l++[p]) x' F2 K' (n+1+1))->VCO pG r (pd.f x' F') K' (n+1+1) [] Q):
  OpV (cApp 1 4 (n+1) x (.sl n 0 1 1) (K.put n (some (.cells 1 [] [.int .u32 p] .nil)))) pd r pG F' (K.put n (some (.cells 1 [] [.int .u32 p] .nil))) (n+1) [] Q:=by
 obtain⟨f1,f3,k0,ow,dx,n1⟩:=S;have hvl:∀b,blk x=some b->b<n:=λ b h=>ow.blkLt h;refine OwnS.appA (k:=1) (new:=[.int .u32 p]) (ow.frame (n':=n+1) (by omega) λ b hb=>by have:=hvl b hb;simp[neC this]) (sliceCells_one (by simp)) (by simp) (by simp) (by omega) (by omega) (by unfold big;omega) (by omega) (by simp) λ K2 o2 g2=>?_;refine hgo K2 _ λ F2 w1 w3=>⟨w1,w3,?_,?_,λ b hb=>by simp at hb;omega,by omega⟩
 ·have h0:¬ 0=n:=by omega
  rw[g2 0 (by omega) λ h=>by have:=dx 0 h;omega];simp[h0,k0]
 rw[Enc.l_append,Enc.l_one,eU_c,length_append];exact o2
theorem pages73 (s:Sch)(hs:s.fine):FnPure pG 35 [eSch.av s] (eU.ds s.pages):=by
 have ht:=hs.t;have hi:=hs.i;unfold lim at ht hi;refine pureV c35 (by simp) (by simp) (by simp[A35]) λ F hF=>?_;simp[A35,B35,R35_0,R35_1,R35_2,hF,Enc.av];refine LoopV.of (λ q F K n ms=>∃(i:Nat) (x:AV),q=s.tables.length - i/\i<=s.tables.length/\PgF s ((s.tables.take i).map (·.head)) x F K n/\F.get 4=some (.int .i64 (i:Int))/\ms=[]) s.tables.length ⟨0,.cst (.slice none 0 0),by simp,by omega,⟨by simp,by simp,by simp,by simpa using OwnS.nil _ _ 1,by simp,by omega⟩,by simp,rfl⟩ ?_;clear hF F;rintro q F K n ms ⟨i,x,rfl,hil,S,f4,rfl⟩;obtain⟨f1,f3,k0,ow,dx,n1⟩:=id S;rw[eSch_c]at k0
 by_cases hlt:i<s.tables.length
 ·have hx:=eTbl.ix (ik:=.i64) hlt;rw[eTbl_c]at hx;simp[L35_0,R35_3,R35_4,f1,f3,f4,k0,Enc.len_ds,hlt,hx];refine S.app (by simp;omega) _ λ K' x' hS=>?_;simp[R35_5,f4,wrap_nat i (by omega)];exact⟨_,by omega,i+1,rfl,hlt,⟨x',by rw[<-map_take,take_snoc hlt,map_append];exact hS _ (by simp[f1]) (by simp)⟩,rfl⟩
 obtain rfl:i=s.tables.length:=by omega
 rw[take_length]at S;simp[L35_0,R35_3,f1,f4,k0,Enc.len_ds,R35_6];refine LoopV.of (λ q F K n ms=>∃(i:Nat) (x:AV),q=s.indexes.length - i/\i<=s.indexes.length/\PgF s (s.tables.map (·.head)++(s.indexes.take i).map (·.root)) x F K n/\F.get 5=some (.int .i64 (i:Int))/\ms=[]) s.indexes.length ⟨0,x,by simp,by omega,by simpa using(⟨by simp[f1],by simp[f3],S.k0,S.ow,dx,n1⟩:PgF s _ x _ K n),by simp,rfl⟩ ?_;clear S f1 f3 f4 k0 ow dx n1 F K n x;rintro q F K n ms ⟨i,x,rfl,hil,S,f5,rfl⟩;obtain⟨f1,f3,k0,ow,dx,n1⟩:=id S;rw[eSch_c]at k0
 by_cases hlt:i<s.indexes.length
 ·have hx:=eIxd.ix (ik:=.i64) hlt;rw[eIxd_c]at hx;simp[L35_1,R35_7,R35_8,f1,f3,f5,k0,Enc.len_ds,hlt,hx];refine S.app (by simp;omega) _ λ K' x' hS=>?_;simp[R35_9,f5,wrap_nat i (by omega)];exact⟨_,by omega,i+1,rfl,hlt,⟨x',by rw[<-map_take,take_snoc hlt,map_append,<-append_assoc];exact hS _ (by simp[f1]) (by simp)⟩,rfl⟩
 obtain rfl:i=s.indexes.length:=by omega
 rw[take_length]at ow;simp[L35_1,R35_7,f1,f5,k0,Enc.len_ds,R35_10,f3];have:=ow.frz (FrzL.pure (by simp)) (by omega);simpa[Enc.ds,Sch.pages]using this
def PgP (l:List Int)(i:Nat):Prop:=∀h:i<l.length,(∀k (hk:k<i),(l[k]'(by omega))≠l[i])/\l[i]≠0
theorem pgOk_iff (l:List Int):PgOk l↔∀i,PgP l i:=by
 constructor
 ·rintro⟨h1,h2⟩ i hi;exact⟨λ k hk=>pairwise_iff_getElem.1 h1 k i (by omega) hi hk,λ e=>h2 (by rw[<-e];exact getElem_mem hi)⟩
 intro h;refine⟨pairwise_iff_getElem.2 λ a b ha hb hab=>(h b hb).1 a hab,λ h0=>?_⟩;obtain⟨i,hi,e⟩:=getElem_of_mem h0;exact(h i hi).2 e
structure C23 (s:Sch)(F:Fr)(K:Hp)(n:Nat):Prop where
 f1:F.get 1=some (.ptr 0 0)
 k0:K.get 0=some (.cells 2 [] (eSch.cells s) .nil)
 n1:1<=n
theorem may23a (s:Sch)(l:List Int)(hl:l.length<=4194304)(i:Nat)(hi:i<l.length)(F:Fr)(K:Hp)(n:Nat)(Q:QA)(S:C23 s F K n)(f3:F.get 3=some (eU.ds l))(f4:F.get 4=some (.int .i64 (i:Int)))(f5:F.get 5=some (.int .i64 0))
  (hbad:¬(∀k (hk:k<i),(l[k]'(by omega))≠l[i])->∀F,F.get 2=some (.bool false)->Q .ret F K n [])
  (hok:(∀k (hk:k<i),(l[k]'(by omega))≠l[i])->∀F,C23 s F K n->F.get 3=some (eU.ds l)->F.get 4=some (.int .i64 (i:Int))->Q .normal F K n []):LoopV L18_0 pG F K n [] (BlkQ 2 Q):=by
 refine LoopV.of (λ g F K' n' ms=>∃k:Nat,g=i - k/\k<=i/\C23 s F K n/\F.get 3=some (eU.ds l)/\F.get 4=some (.int .i64 (i:Int))/\F.get 5=some (.int .i64 (k:Int))/\K'=K/\n'=n/\ms=[]/\∀j (hj:j<i),j<k->(l[j]'(by omega))≠l[i]) i ⟨0,by simp,by omega,S,f3,f4,by simpa using f5,rfl,rfl,rfl,λ j hj h1=>by omega⟩ ?_;clear S f3 f4 f5 F;rintro g F K' n' ms ⟨k,rfl,hk,⟨f1,k0,n1⟩,f3,f4,f5,rfl,rfl,rfl,hj⟩
 by_cases hlt:k<i
 ·have hx:=eU.ix (l:=l) (i:=k) (ik:=.i64) (by omega);have hy:=eU.ix (ik:=.i64) hi;rw[eU_c]at hx hy;simp only[L18_0,R18_7,R18_8];simp[f4,f5,hlt];refine DrwV.of (ce0_ok (P:=pG)) ?_
  by_cases he:(l[k]'(by omega))=l[i]
  ·simp[clearF_get,f3,f4,f5,hx,hy,he,R18_9];exact hbad (λ h=>h k hlt he) _ (by simp)
  simp[clearF_get,f3,f4,f5,hx,hy,he,R18_10,wrap_nat k (by omega)];refine⟨_,by omega,k+1,rfl,by omega,⟨by simp[clearF_get,f1],k0,n1⟩,rfl,λ j hjl h1=>?_⟩
  by_cases e:j=k
  ·subst e;exact he
  exact hj j hjl (by omega)
 obtain rfl:k=i:=by omega
 simp[L18_0,R18_7,f4,f5];exact hok (λ k hk=>hj k hk hk) _ ⟨by simp[f1],k0,n1⟩ (by simp[f3]) (by simp[f4])
theorem may23b (s:Sch) (l:List Int) (hl:l.length<=4194304) (F:Fr) (K:Hp) (n:Nat) (Q:QA) (S:C23 s F K n) (f3:F.get 3=some (eU.ds l)) (f4:F.get 4=some (.int .i64 0))
  (hbad:¬PgOk l->∀F,F.get 2=some (.bool false)->Q .ret F K n [])
  (hok:PgOk l->∀F,C23 s F K n->Q .normal F K n []):LoopV L18_1 pG F K n [] (BlkQ 0 Q):=by
 have hC:=pgOk_iff l;refine LoopV.of (λ g F K' n' ms=>∃i:Nat,g=l.length - i/\i<=l.length/\C23 s F K n/\F.get 3=some (eU.ds l)/\F.get 4=some (.int .i64 (i:Int))/\K'=K/\n'=n/\ms=[]/\∀j,j<i->PgP l j) l.length ⟨0,by simp,by omega,S,f3,by simpa using f4,rfl,rfl,rfl,λ j h=>by omega⟩ ?_;clear S f3 f4 F;rintro g F K' n' ms ⟨i,rfl,hi,⟨f1,k0,n1⟩,f3,f4,rfl,rfl,rfl,hj⟩
 by_cases hlt:i<l.length
 ·have hx:=eU.ix (ik:=.i64) hlt;rw[eU_c]at hx;have no:¬PgP l i->¬PgOk l:=λ h hc=>h (hC.1 hc i);simp[L18_1,R18_5,R18_6,f3,f4,Enc.len_ds,hlt];refine may23a s l hl i hlt _ _ _ _ ⟨by simp[f1],k0,n1⟩ (by simp[f3]) (by simp[f4]) (by simp) (λ hb F f2=>?_) λ hg F ⟨f1,k0,n1⟩ f3 f4=>?_
  ·simp;exact hbad (no λ h=>hb (h hlt).1) _ f2
  by_cases h0:l[i]=0
  ·simp[R18_11,R18_12,f3,f4,hx,h0];exact hbad (no λ h=>(h hlt).2 h0) _ (by simp)
  simp[R18_11,R18_13,f3,f4,hx,h0,wrap_nat i (by omega)];refine⟨_,by omega,i+1,rfl,hlt,⟨by simp[f1],k0,n1⟩,rfl,λ j hji=>?_⟩
  by_cases e:j=i
  ·subst e;exact λ _=>⟨hg,h0⟩
  exact hj j (by omega)
 obtain rfl:i=l.length:=by omega
 simp[L18_1,R18_5,f3,f4,Enc.len_ds];exact hok (hC.2 λ j h=>hj j h h) _ ⟨by simp[f1],k0,n1⟩
def TbP (l:List Tbl)(i:Nat):Prop:=∀h:i<l.length,l[i].id≠0/\NameOk l[i].name/\ColsOk l[i].cols/\∀k (hk:k<i),(l[k]'(by omega)).id<l[i].id/\(l[k]'(by omega)).name≠l[i].name
theorem tabsOk_iff (l:List Tbl) (h0:∀t∈l,0<=t.id):TabsOk l↔∀i,TbP l i:=by
 constructor
 ·intro h
  have asc:∀i (hi:i<l.length),0<l[i].id/\∀k (hk:k<i),(l[k]'(by omega)).id<l[i].id:=by
   intro i
   induction i with
   | zero=>intro hi;have:=(h 0 hi).id;rw[lastT_0]at this;exact⟨this,λ k hk=>by omega⟩
   | succ i ih =>
    intro hi;obtain⟨a1,a2⟩:=ih (by omega);have:=(h (i+1) hi).id;rw[lastT_s (by omega)]at this;refine⟨by omega,λ k hk=>?_⟩
    by_cases e:k=i
    ·subst e;exact this
    have:=a2 k (by omega);omega
  intro i hi;refine⟨by have:=(asc i hi).1;omega,(h i hi).name,(h i hi).cols,λ k hk=>⟨(asc i hi).2 k hk,(h i hi).new _ (mem_take_iff_getElem.2 ⟨k,by omega,rfl⟩)⟩⟩
 intro h i hi;refine⟨?_,(h i hi).2.1,(h i hi).2.2.1,λ t ht=>?_⟩
 ·cases i with
  | zero=>rw[lastT_0];have:=(h 0 hi).1;have:=h0 _ (getElem_mem hi);omega
  | succ i=>rw[lastT_s (by omega)];exact((h (i+1) hi).2.2.2 i (by omega)).1
 obtain⟨k,hk,rfl⟩:=mem_take_iff_getElem.1 ht;exact((h i hi).2.2.2 k (by omega)).2
theorem may23c (s:Sch) (hs:s.fine) (i:Nat) (hi:i<s.tables.length) (F:Fr) (K:Hp) (n a:Nat) (Q:QA) (S:C23 s F K n) (f7:F.get 7=some (.ptr a 0)) (ha:K.get a=some (.cells 4 [] (eTbl.cells s.tables[i]) .nil)) (f6:F.get 6=some (.int .i64 (i:Int))) (f8:F.get 8=some (.int .i64 0))
  (hbad:¬(∀k (hk:k<i),(s.tables[k]'(by omega)).id<s.tables[i].id/\(s.tables[k]'(by omega)).name≠s.tables[i].name)->∀F,F.get 2=some (.bool false)->Q .ret F K n [])
  (hok:(∀k (hk:k<i),(s.tables[k]'(by omega)).id<s.tables[i].id/\(s.tables[k]'(by omega)).name≠s.tables[i].name)->∀F,C23 s F K n->F.get 6=some (.int .i64 (i:Int))->Q .normal F K n []):LoopV L18_2 pG F K n [] (BlkQ 6 Q):=by
 have ht:=hs.t;unfold lim at ht;refine LoopV.of (λ g F K' n' ms=>∃k:Nat,g=i - k/\k<=i/\C23 s F K n/\F.get 7=some (.ptr a 0)/\F.get 6=some (.int .i64 (i:Int))/\F.get 8=some (.int .i64 (k:Int))/\K'=K/\n'=n/\ms=[]/\∀j (hj:j<i),j<k->(s.tables[j]'(by omega)).id<s.tables[i].id/\(s.tables[j]'(by omega)).name≠s.tables[i].name) i ⟨0,by simp,by omega,S,f7,f6,by simpa using f8,rfl,rfl,rfl,λ j hj h1=>by omega⟩ ?_;clear S f6 f7 f8 F;rintro g F K' n' ms ⟨k,rfl,hk,⟨f1,k0,n1⟩,f7,f6,f8,rfl,rfl,rfl,hj⟩;have k0':=k0;rw[eSch_c]at k0;have ha':=ha;rw[eTbl_c]at ha
 by_cases hlt:k<i
 ·have hx:=eTbl.ix (l:=s.tables) (i:=k) (ik:=.i64) (by omega);rw[eTbl_c]at hx;have hj':=hj;generalize hy:s.tables[k]'(by omega)=y at *;generalize hz:s.tables[i]=z at *;have no:¬(y.id<z.id/\y.name≠z.name)->¬(∀k (hk:k<i),(s.tables[k]'(by omega)).id<z.id/\(s.tables[k]'(by omega)).name≠z.name):=λ h h2=>h (by rw[<-hy];exact h2 k hlt);simp only[L18_2,R18_20,R18_21];simp[f6,f8,hlt];refine DrwV.of (ce0_ok (P:=pG)) ?_
  by_cases h1:z.id<=y.id
  ·simp[clearF_get,f1,f7,f8,k0,ha,hx,h1,R18_22];exact hbad (no λ h=>by omega) _ (by simp)
  by_cases h2:y.name=z.name
  ·simp[clearF_get,f1,f7,f8,k0,ha,hx,h1,h2,R18_22];exact hbad (no λ h=>h.2 h2) _ (by simp)
  simp[clearF_get,f1,f7,f8,k0,ha,hx,h1,h2,R18_23,wrap_nat k (by omega)];refine⟨_,by omega,k+1,rfl,by omega,⟨by simp[clearF_get,f1],k0',n1⟩,f6,rfl,λ j hjl h3=>?_⟩
  by_cases e:j=k
  ·subst e;rw[hy];exact⟨by omega,h2⟩
  exact hj j hjl (by omega)
 obtain rfl:k=i:=by omega
 simp[L18_2,R18_20,f6,f8];exact hok (λ k hk=>hj k hk hk) _ ⟨by simp[f1],k0',n1⟩ (by simp[f6])
theorem may23d (s:Sch) (hs:s.fine) (h0:∀t∈s.tables,0<=t.id) (F:Fr) (K:Hp) (n:Nat) (Q:QA) (S:C23 s F K n) (f6:F.get 6=some (.int .i64 0))
  (hbad:¬TabsOk s.tables->∀F K n,F.get 2=some (.bool false)->Q .ret F K n [])
  (hok:TabsOk s.tables->∀F K n,C23 s F K n->Q .normal F K n []):LoopV L18_3 pG F K n [] (BlkQ 4 Q):=by
 have ht:=hs.t;unfold lim at ht;have hC:=tabsOk_iff s.tables h0;refine LoopV.of (λ g F K n ms=>∃i:Nat,g=s.tables.length - i/\i<=s.tables.length/\C23 s F K n/\F.get 6=some (.int .i64 (i:Int))/\ms=[]/\∀j,j<i->TbP s.tables j) s.tables.length ⟨0,by simp,by omega,S,by simpa using f6,rfl,λ j h=>by omega⟩ ?_;clear S f6 F K n;rintro g F K n ms ⟨i,rfl,hi,⟨f1,k0,n1⟩,f6,rfl,hj⟩;have k0':=k0;rw[eSch_c]at k0
 by_cases hlt:i<s.tables.length
 ·have hx := eTbl.ix (ik:=.i64) hlt;have hld:=λ r H=>eTbl.ldN s.tables[i] r H;simp only[Enc.av]at hld;have no:¬TbP s.tables i->¬TabsOk s.tables:=λ h hc=>h (hC.1 hc i);simp[L18_3,R18_15,R18_16,f1,f6,k0,Enc.len_ds,hlt,hx,hld];generalize hK1:Tr.put (Tr.put K n _) n _=K1;have g1:∀b,b<n->K1.get b=K.get b:=λ b hb=>by rw[<-hK1];simp[neC hb]
  have x1:K1.get n=some (.cells 4 [] (eTbl.cells s.tables[i]) .nil):=by rw[<-hK1];simp
  clear hK1;have k01:=(g1 0 (by omega)).trans k0';have x1':=x1;rw[eTbl_c]at x1
  by_cases h1:s.tables[i].id=0
  ·simp[R18_17,R18_18,x1,h1];exact hbad (no λ h=>(h hlt).1 h1) _ _ _ (by simp)
  simp[R18_17,x1,h1];refine CalV.pure (name74 s.tables[i].name) ?_
  by_cases h2:NameOk s.tables[i].name
  ·simp[h2,x1];refine CalV.pure (cols75 s.tables[i].cols) ?_
   by_cases h3:ColsOk s.tables[i].cols
   ·simp[h3,R18_19];refine may23c s hs i hlt _ K1 (n+1) n _ ⟨by simp[f1],k01,by omega⟩ (by simp) x1' (by simp[f6]) (by simp) (λ hb F f2=>?_) λ hg F ⟨f1,_,_⟩ f6=>?_
    ·simp;exact hbad (no λ h=>hb (h hlt).2.2.2) _ _ _ f2
    simp[R18_24,f6,wrap_nat i (by omega)];refine⟨_,by omega,i+1,rfl,hlt,⟨by simp[f1],k01,by omega⟩,rfl,λ j hji=>?_⟩
    by_cases e:j=i
    ·subst e;exact λ _=>⟨h1,h2,h3,hg⟩
    exact hj j (by omega)
   simp[h3,R18_18];exact hbad (no λ h=>h3 (h hlt).2.2.1) _ _ _ (by simp)
  simp[h2,R18_18];exact hbad (no λ h=>h2 (h hlt).2.1) _ _ _ (by simp)
 obtain rfl:i=s.tables.length:=by omega
 simp[L18_3,R18_15,f1,f6,k0,Enc.len_ds];exact hok (hC.2 λ j h=>hj j h h) _ _ _ ⟨by simp[f1],k0',n1⟩
def IxP (s:Sch)(i:Nat):Prop:=∀h:i<s.indexes.length,s.indexes[i].id≠0/\NameOk s.indexes[i].name/\(s.table s.indexes[i].table).2=true/\PlacesOk (s.table s.indexes[i].table).1 s.indexes[i].cols/\∀k (hk:k<i),(s.indexes[k]'(by omega)).id<s.indexes[i].id/\(s.indexes[k]'(by omega)).name≠s.indexes[i].name
theorem ixsOk_iff (s:Sch) (h0:∀t∈s.indexes,0<=t.id):IxsOk s↔∀i,IxP s i:=by
 constructor
 ·intro h
  have asc:∀i (hi:i<s.indexes.length),0<s.indexes[i].id/\∀k (hk:k<i),(s.indexes[k]'(by omega)).id<s.indexes[i].id:=by
   intro i
   induction i with
   | zero=>intro hi;have:=(h 0 hi).id;rw[lastI_0]at this;exact⟨this,λ k hk=>by omega⟩
   | succ i ih =>
    intro hi;obtain⟨a1,a2⟩:=ih (by omega);have:=(h (i+1) hi).id;rw[lastI_s (by omega)]at this;refine⟨by omega,λ k hk=>?_⟩
    by_cases e:k=i
    ·subst e;exact this
    have:=a2 k (by omega);omega
  intro i hi;refine⟨by have:=(asc i hi).1;omega,(h i hi).name,(h i hi).table,(h i hi).cols,λ k hk=>⟨(asc i hi).2 k hk,(h i hi).new _ (mem_take_iff_getElem.2 ⟨k,by omega,rfl⟩)⟩⟩
 intro h i hi;refine⟨?_,(h i hi).2.1,(h i hi).2.2.1,(h i hi).2.2.2.1,λ t ht=>?_⟩
 ·cases i with
  | zero=>rw[lastI_0];have:=(h 0 hi).1;have:=h0 _ (getElem_mem hi);omega
  | succ i=>rw[lastI_s (by omega)];exact((h (i+1) hi).2.2.2.2 i (by omega)).1
 obtain⟨k,hk,rfl⟩:=mem_take_iff_getElem.1 ht;exact((h i hi).2.2.2.2 k (by omega)).2
theorem may23e (s:Sch) (hs:s.fine) (i:Nat) (hi:i<s.indexes.length) (F:Fr) (K:Hp) (n a:Nat) (Q:QA) (S:C23 s F K n) (f7:F.get 10=some (.ptr a 0)) (ha:K.get a=some (.cells 6 [] (eIxd.cells s.indexes[i]) .nil)) (f6:F.get 9=some (.int .i64 (i:Int))) (f8:F.get 13=some (.int .i64 0))
  (hbad:¬(∀k (hk:k<i),(s.indexes[k]'(by omega)).id<s.indexes[i].id/\(s.indexes[k]'(by omega)).name≠s.indexes[i].name)->∀F,F.get 2=some (.bool false)->Q .ret F K n [])
  (hok:(∀k (hk:k<i),(s.indexes[k]'(by omega)).id<s.indexes[i].id/\(s.indexes[k]'(by omega)).name≠s.indexes[i].name)->∀F,C23 s F K n->F.get 9=some (.int .i64 (i:Int))->Q .normal F K n []):LoopV L18_4 pG F K n [] (BlkQ 10 Q):=by
 have ht:=hs.i;unfold lim at ht;refine LoopV.of (λ g F K' n' ms=>∃k:Nat,g=i - k/\k<=i/\C23 s F K n/\F.get 10=some (.ptr a 0)/\F.get 9=some (.int .i64 (i:Int))/\F.get 13=some (.int .i64 (k:Int))/\K'=K/\n'=n/\ms=[]/\∀j (hj:j<i),j<k->(s.indexes[j]'(by omega)).id<s.indexes[i].id/\(s.indexes[j]'(by omega)).name≠s.indexes[i].name) i ⟨0,by simp,by omega,S,f7,f6,by simpa using f8,rfl,rfl,rfl,λ j hj h1=>by omega⟩ ?_;clear S f6 f7 f8 F;rintro g F K' n' ms ⟨k,rfl,hk,⟨f1,k0,n1⟩,f7,f6,f8,rfl,rfl,rfl,hj⟩;have k0':=k0;rw[eSch_c]at k0;have ha':=ha;rw[eIxd_c]at ha
 by_cases hlt:k<i
 ·have hx:=eIxd.ix (l:=s.indexes) (i:=k) (ik:=.i64) (by omega);rw[eIxd_c]at hx;have hj':=hj;generalize hy:s.indexes[k]'(by omega)=y at *;generalize hz:s.indexes[i]=z at *;have no:¬(y.id<z.id/\y.name≠z.name)->¬(∀k (hk:k<i),(s.indexes[k]'(by omega)).id<z.id/\(s.indexes[k]'(by omega)).name≠z.name):=λ h h2=>h (by rw[<-hy];exact h2 k hlt);simp only[L18_4,R18_32,R18_33];simp[f6,f8,hlt];refine DrwV.of (ce0_ok (P:=pG)) ?_
  by_cases h1:z.id<=y.id
  ·simp[clearF_get,f1,f7,f8,k0,ha,hx,h1,R18_34];exact hbad (no λ h=>by omega) _ (by simp)
  by_cases h2:y.name=z.name
  ·simp[clearF_get,f1,f7,f8,k0,ha,hx,h1,h2,R18_34];exact hbad (no λ h=>h.2 h2) _ (by simp)
  simp[clearF_get,f1,f7,f8,k0,ha,hx,h1,h2,R18_35,wrap_nat k (by omega)];refine⟨_,by omega,k+1,rfl,by omega,⟨by simp[clearF_get,f1],k0',n1⟩,f6,rfl,λ j hjl h3=>?_⟩
  by_cases e:j=k
  ·subst e;rw[hy];exact⟨by omega,h2⟩
  exact hj j hjl (by omega)
 obtain rfl:k=i:=by omega
 simp[L18_4,R18_32,f6,f8];exact hok (λ k hk=>hj k hk hk) _ ⟨by simp[f1],k0',n1⟩ (by simp[f6])
theorem may23f (s:Sch) (hs:s.fine) (h0:∀t∈s.indexes,0<=t.id) (F:Fr) (K:Hp) (n:Nat) (Q:QA) (S:C23 s F K n) (f9:F.get 9=some (.int .i64 0))
  (hbad:¬IxsOk s->∀F K n,F.get 2=some (.bool false)->Q .ret F K n [])
  (hok:IxsOk s->∀F K n,C23 s F K n->Q .normal F K n []):LoopV L18_5 pG F K n [] (BlkQ 8 Q):=by
 have ht:=hs.i;unfold lim at ht;have hC:=ixsOk_iff s h0;refine LoopV.of (λ g F K n ms=>∃i:Nat,g=s.indexes.length - i/\i<=s.indexes.length/\C23 s F K n/\F.get 9=some (.int .i64 (i:Int))/\ms=[]/\∀j,j<i->IxP s j) s.indexes.length ⟨0,by simp,by omega,S,by simpa using f9,rfl,λ j h=>by omega⟩ ?_;clear S f9 F K n;rintro g F K n ms ⟨i,rfl,hi,⟨f1,k0,n1⟩,f9,rfl,hj⟩;have k0':=k0;rw[eSch_c]at k0
 by_cases hlt:i<s.indexes.length
 ·have hx := eIxd.ix (ik:=.i64) hlt;have hld:=λ r H=>eIxd.ldN s.indexes[i] r H;simp only[Enc.av]at hld;have no:¬IxP s i->¬IxsOk s:=λ h hc=>h (hC.1 hc i);have h76:FnPure pG 38 [.agg (eSch.cells s) 2,.int .u32 s.indexes[i].table] (.tup [.agg (eTbl.cells (s.table s.indexes[i].table).1) 4,.bool (s.table s.indexes[i].table).2]):=table76 s hs s.indexes[i].table;have hsl:(eSch.cells s).length=2:=eSch.cells_len s;simp[L18_5,R18_26,R18_27,f1,f9,k0,Enc.len_ds,hlt,hx,hld];generalize hK1:Tr.put (Tr.put K n _) n _=K1;have g1:∀b,b<n->K1.get b=K.get b:=λ b hb=>by rw[<-hK1];simp[neC hb]
  have x1:K1.get n=some (.cells 6 [] (eIxd.cells s.indexes[i]) .nil):=by rw[<-hK1];simp
  clear hK1;have k01:=(g1 0 (by omega)).trans k0';have x1':=x1;rw[eIxd_c]at x1;simp[R18_28,f1,k01,x1];refine CalV.pure h76 ?_;simp;generalize hK2:Tr.put (Tr.put K1 (n+1) _) (n+1) _=K2;have g2:∀b,b<n+1->K2.get b=K1.get b:=λ b hb=>by rw[<-hK2];simp[neC hb]
  have y2:K2.get (n+1)=some (.cells 4 [] (eTbl.cells (s.table s.indexes[i].table).1) .nil):=by rw[<-hK2];simp
  clear hK2;have k02:=(g2 0 (by omega)).trans k01;have x2':=(g2 n (by omega)).trans x1';have x2:=(g2 n (by omega)).trans x1;rw[eTbl_c]at y2
  by_cases h1:s.indexes[i].id=0
  ·simp[R18_29,R18_30,x2,h1];exact hbad (no λ h=>(h hlt).1 h1) _ _ _ (by simp)
  simp[R18_29,x2,h1];refine CalV.pure (name74 s.indexes[i].name) ?_
  by_cases h2:NameOk s.indexes[i].name
  ·cases h3:(s.table s.indexes[i].table).2 with
   | false =>
    simp[h2,h3,R18_30];exact hbad (no λ h=>by rw[(h hlt).2.2.1]at h3;cases h3) _ _ _ (by simp)
   | true =>
    simp[h2,h3,x2,y2,Enc.len_ds];refine CalV.pure (places77 _ s.indexes[i].cols (hs.ic _ (getElem_mem hlt))) ?_
    by_cases h4:PlacesOk (s.table s.indexes[i].table).1 s.indexes[i].cols
    ·simp[h4,R18_31];refine may23e s hs i hlt _ K2 (n+1+1) n _ ⟨by simp[f1],k02,by omega⟩ (by simp) x2' (by simp[f9]) (by simp) (λ hb F f2=>?_) λ hg F ⟨f1,_,_⟩ f9=>?_
     ·simp;exact hbad (no λ h=>hb (h hlt).2.2.2.2) _ _ _ f2
     simp[R18_36,f9,wrap_nat i (by omega)];refine⟨_,by omega,i+1,rfl,hlt,⟨by simp[f1],k02,by omega⟩,rfl,λ j hji=>?_⟩
     by_cases e:j=i
     ·subst e;exact λ _=>⟨h1,h2,h3,h4,hg⟩
     exact hj j (by omega)
    simp[h4,R18_30];exact hbad (no λ h=>h4 (h hlt).2.2.2.1) _ _ _ (by simp)
  simp[h2,R18_30];exact hbad (no λ h=>h2 (h hlt).2.1) _ _ _ (by simp)
 obtain rfl:i=s.indexes.length:=by omega
 simp[L18_5,R18_26,f1,f9,k0,Enc.len_ds];exact hok (hC.2 λ j h=>hj j h h) _ _ _ ⟨by simp[f1],k0',n1⟩
structure Sch.rng (s:Sch):Prop where
 t:∀t∈s.tables,0<=t.id
 i:∀t∈s.indexes,0<=t.id
theorem may23 (s:Sch)(hs:s.fine)(hr:s.rng):FnPure pG 18 [eSch.av s] (.bool (decide (SchOk s))):=by
 have h73:FnPure pG 35 [.agg (eSch.cells s) 2] (eU.ds s.pages):=pages73 s hs;have hsl:(eSch.cells s).length=2:=eSch.cells_len s;have ht:=hs.t;have hi:=hs.i;unfold lim at ht hi;refine pureV c18 (by simp) (by simp) (by simp[A18]) λ F hF=>?_;have no:¬SchOk s->Frz (Tr.nil:Hp).get (.bool false) (.bool (decide (SchOk s))):=λ h=>.bool (by simp[h]);have e0:∀h,(eSch.cells s)[0]'h=eTbl.ds s.tables:=λ h=>by simp[eSch_c]
 have e1:∀h,(eSch.cells s)[1]'h=eIxd.ds s.indexes:=λ h=>by simp[eSch_c]
 by_cases h1:(32:Int)<(s.tables.length:Int)
 ·have:¬SchOk s:=λ h=>absurd h.t (by omega);simp[A18,B18,R18_0,R18_1,R18_2,hF,Enc.av,hsl,e0,e1,Enc.len_ds,h1];exact .bool (by simp[this])
 by_cases h2:(64:Int)<(s.indexes.length:Int)
 ·have:¬SchOk s:=λ h=>absurd h.i (by omega);simp[A18,B18,R18_0,R18_1,R18_2,hF,Enc.av,hsl,e0,e1,Enc.len_ds,h1,h2];exact .bool (by simp[this])
 simp[A18,B18,R18_0,R18_1,R18_3,hF,Enc.av,hsl,e0,e1,Enc.len_ds,h1,h2];refine CalV.pure h73 ?_;simp[R18_4];refine may23b s s.pages (by simp[Sch.pages];omega) _ _ _ _ ⟨by simp,by simp,by omega⟩ (by simp) (by simp) (λ hb F f2=>?_) λ p1 F S=>?_
 ·simp[f2];exact .bool (by simp[show ¬SchOk s from λ h=>hb h.pages])
 simp[R18_14];refine may23d s hs hr.t _ _ _ _ ⟨by simp[S.f1],S.k0,S.n1⟩ (by simp) (λ hb F K n f2=>?_) λ p2 F K n S=>?_
 ·simp[f2];exact .bool (by simp[show ¬SchOk s from λ h=>hb h.tabs])
 simp[R18_25];refine may23f s hs hr.i _ _ _ _ ⟨by simp[S.f1],S.k0,S.n1⟩ (by simp) (λ hb F K n f2=>?_) λ p3 F K n S=>?_
 ·simp[f2];exact .bool (by simp[show ¬SchOk s from λ h=>hb h.ixs])
 simp[R18_37];have:SchOk s:=⟨by omega,by omega,p1,p2,p3⟩;exact .bool (by simp[this])
end Go.Abs
