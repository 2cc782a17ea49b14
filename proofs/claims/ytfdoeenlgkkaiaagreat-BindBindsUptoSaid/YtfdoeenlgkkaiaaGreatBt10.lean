/- A part. -/
import Derived.Test.YtfdoeenlgkkaiaaGreatBt9
noncomputable section
namespace Go.Abs
open List
open Go.Proofs
open Classical
set_option maxRecDepth 100000
def nN (l:List Int):Prop:=l.Nodup/\0∉l
def bD.pages (s:bD):List Int:=s.tables.map (·.head)++s.indexes.map (·.root)
theorem nN.add {l:List Int}{x:Int}(h:nN l)(h0:x≠0)(hx:x∉l):nN (l++[x]):=by
 refine⟨nodup_append.2 ⟨h.1,by simp,λ a ha b hb=>?_⟩,?_⟩
 ·simp at hb;subst hb;intro e;subst e;exact hx ha
 simp only[mem_append,mem_singleton,not_or];exact⟨h.2,Ne.symm h0⟩
theorem nN.bad {l r:List Int}{x:Int}(h:x=0∨x∈l):¬nN (l++(x::r)):=by
 rintro⟨h1,h2⟩
 rcases h with rfl | h
 ·exact h2 (by simp)
 exact(nodup_append.1 h1).2.2 x h x (by simp) rfl
theorem S85.alloc {s:bD}{Fo:Fr}{l:List Int}{K:Hp}{n:Nat}(S:S85 s Fo l K n)(y z:bI):S85 s Fo l ((K.put n (some y)).put n (some z)) (n+1):=by
 obtain⟨k0,k1,k2,k3,k4,k5,k6,n7,top⟩:=S;refine⟨?_,?_,?_,?_,?_,?_,?_,by omega,?_⟩
 ·simp[show ¬ 0=n by omega,k0]
 ·simp[show ¬ 1=n by omega,k1]
 ·simp[show ¬ 2=n by omega,k2]
 ·simp[show ¬ 3=n by omega,k3]
 ·simp[show ¬ 4=n by omega,k4]
 ·simp[show ¬ 5=n by omega,k5]
 ·simp[show ¬ 6=n by omega,k6]
 intro b hb;simp[show ¬b=n by omega,top b (by omega)]
def bD.pg (s:bD)(i j:Nat):List Int:=(s.tables.take i).map (·.head)++(s.indexes.take j).map (·.root)
theorem anr (s:bD):s.pg 0 0=[]:=by simp[bD.pg]
theorem ano {s:bD}{i:Nat}(h:i<s.tables.length):s.pg (i+1) 0=s.pg i 0++[s.tables[i].head]:=by
 unfold bD.pg;rw[take_add_one,getElem?_eq_getElem h];simp only[map_append,Option.toList,map_cons,map_nil,take_zero,append_nil]
theorem anq {s:bD}{i j:Nat}(h:j<s.indexes.length):s.pg i (j+1)=s.pg i j++[s.indexes[j].root]:=by
 unfold bD.pg;rw[take_add_one (l:=s.indexes),getElem?_eq_getElem h];simp only[map_append,Option.toList,map_cons,map_nil,append_assoc]
theorem aiK (s:bD):s.pg s.tables.length s.indexes.length=s.pages:=by simp[bD.pg,bD.pages]
theorem ann {s:bD}{i:Nat}(h:i<s.tables.length):∃r,s.pages=s.pg i 0++(s.tables[i].head::r):=by
 refine⟨(s.tables.drop (i+1)).map (·.head)++s.indexes.map (·.root),?_⟩;unfold bD.pages bD.pg
 conv=>lhs;rw[<-take_append_drop i s.tables,drop_eq_getElem_cons h]
 simp only[map_append,map_cons,map_nil,take_zero,append_nil,append_assoc,cons_append]
theorem anp {s:bD}{j:Nat}(h:j<s.indexes.length):∃r,s.pages=s.pg s.tables.length j++(s.indexes[j].root::r):=by
 refine⟨(s.indexes.drop (j+1)).map (·.root),?_⟩;unfold bD.pages bD.pg
 conv=>lhs;rw[<-take_append_drop j s.indexes,drop_eq_getElem_cons h]
 simp only[map_append,map_cons,append_assoc,take_length]
theorem aal (s:bD) (hs:s.dE) (Fo:Fr) (K:Hp) (n:Nat) (f2:Fo.get 2=some (.ptr 1 0)) (f3:Fo.get 3=some (.ptr 3 0)) (S:S85 s Fo [] K n):
  aH pG 95 [.je 5,.ptr 4 0] K n (λ _ K' n'=>(nN s.pages/\S85 s Fo s.pages K' n')∨(¬nN s.pages/\X85 Fo K')):=by
 have ht:=hs.t;have hi:=hs.i;unfold lim at ht hi;refine aH.of c95 (by simp[A95]) λ F hF=>?_;have k4:=S.k4;rw[cC]at k4;simp[A95,B95,ady,hF,k4,al.ag];refine au.of (λ t F K n ms=>∃i,t=s.tables.length - i/\i<=s.tables.length/\F.get 0=some (.je 5)/\F.get 1=some (.ptr 4 0)/\F.get 8=some (aG.ds s.tables)/\F.get 9=some (.int .i64 (s.tables.length:Int))/\F.get 10=some (.int .i64 (i:Int))/\S85 s Fo (s.pg i 0) K n/\nN (s.pg i 0)/\ms=[]) s.tables.length ⟨0,by simp,by simp,by simp[hF],by simp[hF],by simp,by simp,by simp,by rw[anr];exact S,by simp[anr,nN],rfl⟩ ?_;clear S k4 hF F K n;rintro t F K n ms ⟨i,rfl,hil,f0,f1,f8,f9,f10,S,hP,rfl⟩
 by_cases hlt:i<s.tables.length
 ·have hx:=aG.ix (ik:=.i64) hlt;have hld:=λ H=>aG.gM s.tables[i] (aG.l (s.tables.drop (i+1))) H;have S1:=S.alloc (.cells 4 [] [.int .u32 0,.str [],.ak (.slice none 0 0),.int .u32 0] .nil) (.cells 4 [] (aG.cells s.tables[i]) .nil);obtain⟨rr,hrr⟩:=ann hlt;simp[Zh,Tb,adx,f8,f9,f10,hlt,hx,hld,al.av];generalize hK1:Tr.put (Tr.put K n _) n _=K1 at S1 ⊢;have kn:K1.get n=some (.cells 4 [] (aG.cells s.tables[i]) .nil):=by rw[<-hK1];simp
  rw[aU]at kn;clear hK1;simp[adw,f0,kn];refine Dl s Fo (s.pg i 0) s.tables[i].head f2 f3 S1 (λ h0 hx K' n' S'=>?_) (λ hb K' n' X=>?_)
  ·simp[adv,f0,f1,f8,f9,f10,ah i (by omega)];refine⟨_,by omega,i+1,rfl,hlt,rfl,?_,?_⟩
   ·rw[ano hlt];exact S'
   rw[ano hlt];exact hP.add h0 hx
  simp;exact .inr ⟨by rw[hrr];exact nN.bad hb,X⟩
 obtain rfl:i=s.tables.length:=by omega
 have k4:=S.k4;rw[cC]at k4;simp[Zh,Tb,f9,f10,adu,f1,k4,al.ag];refine au.of (λ t F K n ms=>∃i,t=s.indexes.length - i/\i<=s.indexes.length/\F.get 0=some (.je 5)/\F.get 1=some (.ptr 4 0)/\F.get 21=some (bC.ds s.indexes)/\F.get 22=some (.int .i64 (s.indexes.length:Int))/\F.get 23=some (.int .i64 (i:Int))/\S85 s Fo (s.pg s.tables.length i) K n/\nN (s.pg s.tables.length i)/\ms=[]) s.indexes.length ⟨0,by simp,by simp,by simp[f0],by simp[f1],by simp,by simp,by simp,S,hP,rfl⟩ ?_;clear S hP hil k4 f0 f1 f8 f9 f10 F K n;rintro t F K n ms ⟨i,rfl,hil,f0,f1,f8,f9,f10,S,hP,rfl⟩
 by_cases hlt:i<s.indexes.length
 ·have hx:=bC.ix (ik:=.i64) hlt;have hld:=λ H=>bC.gM s.indexes[i] (bC.l (s.indexes.drop (i+1))) H;have S1:=S.alloc (.cells 6 [] [.int .u32 0,.int .u32 0,.str [],.ak (.slice none 0 0),.bool false,.int .u32 0] .nil) (.cells 6 [] (bC.cells s.indexes[i]) .nil);obtain⟨rr,hrr⟩:=anp hlt;simp[Zg,Ta,adt,f8,f9,f10,hlt,hx,hld,al.av];generalize hK1:Tr.put (Tr.put K n _) n _=K1 at S1 ⊢;have kn:K1.get n=some (.cells 6 [] (bC.cells s.indexes[i]) .nil):=by rw[<-hK1];simp
  rw[eG]at kn;clear hK1;simp[ads,f0,kn];refine Dl s Fo (s.pg s.tables.length i) s.indexes[i].root f2 f3 S1 (λ h0 hx K' n' S'=>?_) (λ hb K' n' X=>?_)
  ·simp[adr,f0,f1,f8,f9,f10,ah i (by omega)];refine⟨_,by omega,i+1,rfl,hlt,rfl,?_,?_⟩
   ·rw[anq hlt];exact S'
   rw[anq hlt];exact hP.add h0 hx
  simp;exact .inr ⟨by rw[hrr];exact nN.bad hb,X⟩
 obtain rfl:i=s.indexes.length:=by omega
 rw[aiK]at S hP;simp[Zg,Ta,f9,f10];exact .inl ⟨hP,S⟩
theorem aan (s:bD)(H:Hp)(n:Nat):aH pG 38 [cw.av s] H n (λ v K k=>v=.fn (.func 95) [] [.ptr n 0]/\K=H.put n (some (.cells 2 [] (cw.cells s) .nil))/\k=n+1):=by
 refine aH.of c38 (by simp[A38]) λ F hF=>?_;simp[A38,B38,agx,agw,hF,al.av]
structure GF (s:bD)(K:Hp)(n:Nat):Prop where
 k0:K.get 0=some (.cells 2 [] (cw.cells s) .nil)
 k1:K.get 1=some (.cells 1 [] [.bool false] .nil)
 k6:K.get 6=some .kX
 n7:7<=n
 top:cS K n
theorem GF.alloc {s:bD}{K:Hp}{n:Nat}(S:GF s K n)(y z:bI):GF s ((K.put n (some y)).put n (some z)) (n+1):=by
 obtain⟨k0,k1,k6,n7,top⟩:=S;refine⟨?_,?_,?_,by omega,?_⟩
 ·simp[show ¬ 0=n by omega,k0]
 ·simp[show ¬ 1=n by omega,k1]
 ·simp[show ¬ 6=n by omega,k6]
 intro b hb;simp[show ¬b=n by omega,top b (by omega)]
theorem GF.re {s:bD}{K:Hp}{n:Nat}(S:GF s K n):GF s (K.put 1 (some (.cells 1 [] [.bool false] .nil))) n:=by
 obtain⟨k0,k1,k6,n7,top⟩:=S;refine⟨by simp[k0],by simp,by simp[k6],n7,λ b hb=>?_⟩;simp[show ¬b=1 by omega,top b hb]
def lastT (l:List aR)(i:Nat):Int:=match (l.take i).getLast? with
 | some t=>t.id
 | none=>0
theorem Ax (l:List aR):lastT l 0=0:=by simp[lastT]
theorem Aw {l:List aR}{i:Nat}(h:i<l.length):lastT l (i+1)=l[i].id:=by
 unfold lastT;rw[take_add_one,getElem?_eq_getElem h];simp only[Option.toList,getLast?_concat]
structure Su (l:List aR)(i:Nat)(h:i<l.length):Prop where
 id:lastT l i<l[i].id
 name:cK l[i].name
 ae:fG l[i].ae
 new:∀t∈l.take i,t.name≠l[i].name
def nB (l:List aR):Prop:=∀i h,Su l i h
theorem ajd (s:bD)(hs:s.dE)(F:Fr)(K:Hp)(n:Nat)(Q:QA)(S:GF s K n)(f1:F.get 1=some (.ptr 0 0))(f2:F.get 2=some (.ptr 1 0))(f5:F.get 5=some (.int .u32 0))(f39:F.get 39=some (aG.ds s.tables))(f40:F.get 40=some (.int .i64 (s.tables.length:Int)))(f41:F.get 41=some (.int .i64 0))
  (hok:nB s.tables->∀F' K' n',GF s K' n'->F'.get 1=some (.ptr 0 0)->F'.get 2=some (.ptr 1 0)->Q .normal F' K' n' [.cu 6])
  (hbad:¬nB s.tables->∀F' K' n',GF s K' n'->F'.get 2=some (.ptr 1 0)->Q .ret F' K' n' [.cu 6]):au MX pG F K n [.cu 6] (bX 2 Q):=by
 have ht:=hs.t;unfold lim at ht;refine au.of (λ t F K n ms=>∃i,t=s.tables.length - i/\i<=s.tables.length/\F.get 1=some (.ptr 0 0)/\F.get 2=some (.ptr 1 0)/\F.get 5=some (.int .u32 (lastT s.tables i))/\F.get 39=some (aG.ds s.tables)/\F.get 40=some (.int .i64 (s.tables.length:Int))/\F.get 41=some (.int .i64 (i:Int))/\GF s K n/\(∀k,(h:k<s.tables.length)->k<i->Su s.tables k h)/\ms=[.cu 6]) s.tables.length ⟨0,by simp,by simp,f1,f2,by simp[Ax,f5],f39,f40,by simp[f41],S,λ k _ h=>by omega,rfl⟩ ?_;clear S f1 f2 f5 f39 f40 f41 F K n;rintro t F K n ms ⟨i,rfl,hil,f1,f2,f5,f39,f40,f41,S,hP,rfl⟩
 by_cases hlt:i<s.tables.length
 ·have hx := aG.ix (ik:=.i64) hlt;have hld:=λ H=>aG.gM s.tables[i] (aG.l (s.tables.drop (i+1))) H;have S1:=S.alloc (.cells 4 [] [.int .u32 0,.str [],.ak (.slice none 0 0),.int .u32 0] .nil) (.cells 4 [] (aG.cells s.tables[i]) .nil);have hsl:=aG.xJ (l:=s.tables) (i:=i) hil;simp[MX,I7,YE,f39,f40,f41,hlt,hx,hld,al.av];generalize hK1:Tr.put (Tr.put K n _) n _=K1 at S1 ⊢;have kn:K1.get n=some (.cells 4 [] (aG.cells s.tables[i]) .nil):=by rw[<-hK1];simp
  clear hK1;have CU:=kn;rw[aU]at CU;have k0:=S1.k0;rw[cC]at k0;have no:¬Su s.tables i hlt->¬nB s.tables:=λ h h2=>h (h2 i hlt);have k1:=S1.k1;have hne:∀b,b<n->¬b=n:=λ b h=>by omega
  by_cases h1:s.tables[i].id<=lastT s.tables i
  ·simp[I6,CU,f5,h1,xh,f2,k1];refine hbad (no λ h=>absurd h.id (by omega)) _ _ _ S1.re ?_;simp[f2]
  simp[I6,CU,f5,h1];refine ao.pure (Am s.tables[i].name) ?_
  by_cases h2:cK s.tables[i].name
  ·simp[h2,CU];refine ao.pure (anP s.tables[i].ae) ?_
   by_cases h3:fG s.tables[i].ae
   ·simp[h3,f1,k0,xO,uk,hsl];refine ao.same (aj9 (p:=λ d=>decide (d.name=s.tables[i].name)) (first:=[]) (cap:=[.ptr n 0]) (s.tables.take i) (by simp;unfold lim;omega) λ d _=>amS d s.tables[i] n K1 (n+1) kn S1.top) ?_
    by_cases h4:∃t∈s.tables.take i,t.name=s.tables[i].name
    ·have h4':((s.tables.take i).any λ d=>decide (d.name=s.tables[i].name))=true:=by simpa using h4
     simp[h4',xh,f2,k1];refine hbad (no λ h=>?_) _ _ _ S1.re ?_
     ·obtain⟨t,ht1,ht2⟩:=h4;exact h.new t ht1 ht2
     simp[f2]
    have h4':((s.tables.take i).any λ d=>decide (d.name=s.tables[i].name))=false:=by
     rw[Bool.eq_false_iff];intro h;exact h4 (by simpa using h)
    simp[h4',YD,YC,CU,f1,f2,f39,f40,f41,ah i (by omega)];refine⟨_,by omega,i+1,rfl,hlt,by simp[Aw hlt],rfl,S1,λ k h hk=>?_⟩
    by_cases e:k=i
    ·subst e;exact⟨by omega,h2,h3,λ t ht1 ht2=>h4 ⟨t,ht1,ht2⟩⟩
    exact hP k h (by omega)
   simp[h3,xh,f2,k1];refine hbad (no λ h=>h3 h.ae) _ _ _ S1.re ?_;simp[f2]
  simp[h2,xh,f2,k1];refine hbad (no λ h=>h2 h.name) _ _ _ S1.re ?_;simp[f2]
 obtain rfl:i=s.tables.length:=by omega
 simp[MX,I7,f40,f41];refine hok (λ k h=>hP k h h) _ _ _ S ?_ ?_
 ·simp[f1]
 simp[f2]
def vu (l:List jb)(i:Nat):Int:=match (l.take i).getLast? with
 | some t=>t.id
 | none=>0
theorem Az (l:List jb):vu l 0=0:=by simp[vu]
theorem Ay {l:List jb}{i:Nat}(h:i<l.length):vu l (i+1)=l[i].id:=by
 unfold vu;rw[take_add_one,getElem?_eq_getElem h];simp only[Option.toList,getLast?_concat]
structure alr (s:bD)(i:Nat)(h:i<s.indexes.length):Prop where
 id:vu s.indexes i<s.indexes[i].id
 name:cK s.indexes[i].name
 table:(s.table s.indexes[i].table).2=true
 ae:ei (s.table s.indexes[i].table).1 s.indexes[i].ae
 new:∀t∈s.indexes.take i,t.name≠s.indexes[i].name
def tX (s:bD):Prop:=∀i h,alr s i h
theorem ajc (s:bD)(hs:s.dE)(F:Fr)(K:Hp)(n:Nat)(Q:QA)(S:GF s K n)(f1:F.get 1=some (.ptr 0 0))(f2:F.get 2=some (.ptr 1 0))(f5:F.get 5=some (.int .u32 0))(f39:F.get 74=some (bC.ds s.indexes))(f40:F.get 75=some (.int .i64 (s.indexes.length:Int)))(f41:F.get 76=some (.int .i64 0))
  (hok:tX s->∀F' K' n',GF s K' n'->F'.get 1=some (.ptr 0 0)->F'.get 2=some (.ptr 1 0)->Q .normal F' K' n' [.cu 6])
  (hbad:¬tX s->∀F' K' n',GF s K' n'->F'.get 2=some (.ptr 1 0)->Q .ret F' K' n' [.cu 6]):au MW pG F K n [.cu 6] (bX 4 Q):=by
 have ht:=hs.i;unfold lim at ht;refine au.of (λ t F K n ms=>∃i,t=s.indexes.length - i/\i<=s.indexes.length/\F.get 1=some (.ptr 0 0)/\F.get 2=some (.ptr 1 0)/\F.get 5=some (.int .u32 (vu s.indexes i))/\F.get 74=some (bC.ds s.indexes)/\F.get 75=some (.int .i64 (s.indexes.length:Int))/\F.get 76=some (.int .i64 (i:Int))/\GF s K n/\(∀k,(h:k<s.indexes.length)->k<i->alr s k h)/\ms=[.cu 6]) s.indexes.length ⟨0,by simp,by simp,f1,f2,by simp[Az,f5],f39,f40,by simp[f41],S,λ k _ h=>by omega,rfl⟩ ?_;clear S f1 f2 f5 f39 f40 f41 F K n;rintro t F K n ms ⟨i,rfl,hil,f1,f2,f5,f39,f40,f41,S,hP,rfl⟩
 by_cases hlt:i<s.indexes.length
 ·have hx := bC.ix (ik:=.i64) hlt;have hld:=λ H=>bC.gM s.indexes[i] (bC.l (s.indexes.drop (i+1))) H;have S1:=S.alloc (.cells 6 [] [.int .u32 0,.int .u32 0,.str [],.ak (.slice none 0 0),.bool false,.int .u32 0] .nil) (.cells 6 [] (bC.cells s.indexes[i]) .nil);have hsl:=bC.xJ (l:=s.indexes) (i:=i) hil;simp[MW,I5,Yy,f39,f40,f41,hlt,hx,hld,al.av];generalize hK1:Tr.put (Tr.put K n _) n _=K1 at S1 ⊢;have kn:K1.get n=some (.cells 6 [] (bC.cells s.indexes[i]) .nil):=by rw[<-hK1];simp
  clear hK1;have CU:=kn;rw[eG]at CU;have k0:=S1.k0;rw[cC]at k0;have no:¬alr s i hlt->¬tX s:=λ h h2=>h (h2 i hlt);have h23:=Jt s hs s.indexes[i].table;have gN:cw.av s=.agg [aG.ds s.tables,bC.ds s.indexes] 2:=rfl;rw[gN]at h23;simp[Yx,f1,k0,CU];refine ao.pure h23 ?_;have hcl:(s.table s.indexes[i].table).1.ae.length<=lim:=cE (Q:=λ t:aR=>t.ae.length<=lim) (by simp[aR.zero,lim]) hs.tc;have h48:=λ c=>Qd (s.table s.indexes[i].table).1 c hcl;generalize hT:s.table s.indexes[i].table=T at h48 hcl ⊢;obtain⟨t,ok⟩:=T;have S2:=S1.alloc (.cells 4 [] [.int .u32 0,.str [],.ak (.slice none 0 0),.int .u32 0] .nil) (.cells 4 [] (aG.cells t) .nil);simp[al.av];generalize hK2:Tr.put (Tr.put K1 (n+1) _) (n+1) _=K2 at S2 ⊢;have kn2:K2.get n=some (.cells 6 [] (bC.cells s.indexes[i]) .nil):=by rw[<-hK2];simp[kn]
  have kt:K2.get (n+1)=some (.cells 4 [] (aG.cells t) .nil):=by rw[<-hK2];simp
  clear hK2 kn CU k0 S1;have CU:=kn2;rw[eG]at CU;have k0:=S2.k0;rw[cC]at k0;have k1:=S2.k1;have h48':=h48 s.indexes[i].ae;simp only[al.av]at h48'
  by_cases h1:s.indexes[i].id<=vu s.indexes i
  ·simp[I4,CU,f5,h1,sW,f2,k1];refine hbad (no λ h=>absurd h.id (by omega)) _ _ _ S2.re ?_;simp[f2]
  simp[I4,CU,f5,h1];refine ao.pure (Am s.indexes[i].name) ?_
  by_cases h2:cK s.indexes[i].name
  ·cases ok with
   | false =>
    simp[h2,sW,f2,k1];refine hbad (no λ h=>?_) _ _ _ S2.re ?_
    ·have:=h.table;rw[hT]at this;simp at this
    simp[f2]
   | true =>
   simp[h2,CU,kt];refine ao.pure h48' ?_
   by_cases h3:ei t s.indexes[i].ae
   ·simp[h3,f1,k0,xO,uk,hsl];refine ao.same (aj' (p:=λ d=>decide (d.name=s.indexes[i].name)) (first:=[]) (cap:=[.ptr n 0]) (s.indexes.take i) (by simp;unfold lim;omega) λ d _=>aob d s.indexes[i] n K2 (n+1+1) kn2 S2.top) ?_
    by_cases h4:∃t∈s.indexes.take i,t.name=s.indexes[i].name
    ·have h4':((s.indexes.take i).any λ d=>decide (d.name=s.indexes[i].name))=true:=by simpa using h4
     simp[h4',sW,f2,k1];refine hbad (no λ h=>?_) _ _ _ S2.re ?_
     ·obtain⟨t,ht1,ht2⟩:=h4;exact h.new t ht1 ht2
     simp[f2]
    have h4':((s.indexes.take i).any λ d=>decide (d.name=s.indexes[i].name))=false:=by
     rw[Bool.eq_false_iff];intro h;exact h4 (by simpa using h)
    simp[h4',Yw,Yv,CU,f1,f2,f39,f40,f41,ah i (by omega)];refine⟨_,by omega,i+1,rfl,hlt,by simp[Ay hlt],rfl,S2,λ k h hk=>?_⟩
    by_cases e:k=i
    ·subst e;exact⟨by omega,h2,by rw[hT],by rw[hT];exact h3,λ t ht1 ht2=>h4 ⟨t,ht1,ht2⟩⟩
    exact hP k h (by omega)
   simp[h3,sW,f2,k1];refine hbad (no λ h=>h3 ?_) _ _ _ S2.re ?_
   ·have:=h.ae;rwa [hT]at this
   simp[f2]
  simp[h2,sW,f2,k1];refine hbad (no λ h=>h2 h.name) _ _ _ S2.re ?_;simp[f2]
 obtain rfl:i=s.indexes.length:=by omega
 simp[MW,I5,f40,f41];refine hok (λ k h=>hP k h h) _ _ _ S ?_ ?_
 ·simp[f1]
 simp[f2]
@[simp] theorem asF (b:Nat):(AV.map b).len=1:=rfl
@[simp] theorem alN (b:Nat):(AV.map b).cells=[.map b]:=rfl
@[simp] theorem asE (b:Nat):(AV.map b).one=true:=rfl
structure eY (s:bD):Prop where
 t:s.tables.length<=32
 i:s.indexes.length<=64
 pages:nN s.pages
 tabs:nB s.tables
 ixs:tX s
theorem anT (s:bD) (hs:s.dE):ai pG 10 [cw.av s] (.bool (decide (eY s))):=by
 refine bf c10 (by simp) (by simp) (by simp[A10]) λ F hF=>?_
 by_cases h1:32<s.tables.length
 ·have:¬eY s:=λ h=>absurd h.t (by omega);simp[A10,B10,LL,LJ,Yz,hF,al.av,cC,al.ag,show (32:Int)<(s.tables.length:Int) by omega];exact .bool (by simp[this])
 have h1':¬(32:Int)<(s.tables.length:Int):=by omega
 by_cases h2:64<s.indexes.length
 ·have:¬eY s:=λ h=>absurd h.i (by omega);simp[A10,B10,LL,LJ,Yz,hF,al.av,cC,al.ag,h1',show (64:Int)<(s.indexes.length:Int) by omega];exact .bool (by simp[this])
 have h2':¬(64:Int)<(s.indexes.length:Int):=by omega
 simp[A10,B10,LL,LJ,hF,al.av,cC,al.ag,h1',h2',aid,aic,qg];refine ao.of (aan s _ _) ?_;rintro v K n ⟨rfl,rfl,rfl⟩;simp;refine Sv.of ?_;generalize hF1:(Fp 24 _ _:Fr)=F1;have f1:F1.get 1=some (.ptr 0 0):=by rw[<-hF1];simp
 have f2:F1.get 2=some (.ptr 1 0):=by rw[<-hF1];simp
 have f3:F1.get 3=some (.ptr 3 0):=by rw[<-hF1];simp
 clear hF1 hF F;refine aH.mono (aal s hs F1 _ _ f2 f3 ?_) ?_
 ·refine⟨by simp[cC],by simp,by simp[JM],by simp,by simp,by simp,by simp,by omega,λ b hb=>?_⟩;simp[show ¬b=0 by omega,show ¬b=1 by omega,show ¬b=2 by omega,show ¬b=3 by omega,show ¬b=4 by omega,show ¬b=5 by omega,show ¬b=6 by omega]
 rintro v K n (⟨hp,S⟩ | ⟨hp,X⟩)
 ·refine⟨_,_,_,_,_,_,_,S.k5,by simp,by simp,?_⟩
  have S1:GF s (K.put 5 none) n:=⟨by simp[S.k0],by simp[S.k1],by simp[S.k6],S.n7,λ b hb=>by
   have:=S.n7;simp[show ¬b=5 by omega,S.top b hb]⟩
  clear S;generalize Tr.put K 5 none=K1 at S1 ⊢;have k0:=S1.k0;rw[cC]at k0;simp[aia,YF,f1,k0,al.ag];refine ajd s hs _ _ _ _ S1 (by simp[f1]) (by simp[f2]) (by simp) (by simp) (by simp) (by simp) (λ ht F' K' n' S' g1 g2=>?_) (λ ht F' K' n' S' g2=>?_)
  ·have k0:=S'.k0;rw[cC]at k0;simp[YB,YA,g1,k0,al.ag];refine ajc s hs _ _ _ _ S' (by simp[g1]) (by simp[g2]) (by simp) (by simp) (by simp) (by simp) (λ hi F3 K3 n3 S3 w1 w2=>?_) (λ hi F3 K3 n3 S3 w2=>?_)
   ·have:eY s:=⟨by omega,by omega,hp,ht,hi⟩;have k1:=S3.k1;have k6:=S3.k6;simp[Yu,w2,k1,k6];exact .bool (by simp[this])
   have:¬eY s:=λ h=>hi h.ixs;have k1:=S3.k1;have k6:=S3.k6;simp[w2,k1,k6];exact .bool (by simp[this])
  have:¬eY s:=λ h=>ht h.tabs;have k1:=S'.k1;have k6:=S'.k6;simp[g2,k1,k6];exact .bool (by simp[this])
 obtain⟨k1,⟨nt,G,ps,a,b,k5⟩,k6⟩:=X;have:¬eY s:=λ h=>hp h.pages;refine⟨_,_,_,_,_,_,_,k5,by simp,by simp,?_⟩;simp[f2,k1,k6];exact .bool (by simp[this])
def M5:CT:=.seq (.seq KM (.cond (aC 107) (.seq U6 .ret) .skip)) (.seq U5 .ret)
structure ab6 (s:bD)(b:ew)(err:Int)(K:Hp):Prop where
 k2:K.get 2=some (.cells 25 [] (br 0) .nil)
 k3:K.get 3=some (bV s err)
 k4:∃l,K.get 4=some (.cells 25 [] l .nil)/\l.length=25/\bm l=true/\∀h,kP h l b.cells
theorem kP.Oh {h:Hf}:∀ {l l':List AV},kP h l l'->aL l'->aN h l l'
 | [],[],_,_=>.nil
 | [],_::_,k,_=>by simp[kP]at k
 | _::_,[],k,_=>by simp[kP]at k
 | v::l,v'::l',k,hp=>by
  simp only[AW]at k;simp at hp;refine .cons _ _ _ _ ?_ (kP.Oh k.2 hp.2)
  rcases k.1 with rfl | h1
  ·exact .pure _ hp.1
  exact h1
theorem mR (k:Int)(h:Hf):kP h (br k) (ew.cells {kind:=k}):=by
 simp[br,ew.cells,aR.zero,jb.zero]
@[simp] theorem Qj (k:Int):(br k).length=25:=rfl
theorem Dn (k:Int):bm (br k)=true:=by simp[br]
def jU:ew:={kind:=0}
def dJ (r:ew×Int):ew×Int:=if r.2=0 then r else (jU,r.2)
theorem Oy (s:bD)(b:ew)(err:Int)(F:Fr)(K:Hp)(n:Nat)(f4:F.get 4=some (.ptr 2 0))(f6:F.get 6=some (.ptr 3 0))(f7:F.get 7=some (.ptr 4 0))(O:ab6 s b err K):
  VC pG M5 F K n [] (iR [dm 4 25,aP 5] λ v1 H' _=>dU H'.get v1 (.bg [.agg (dJ (b,err)).1.cells 25,.int .i64 (dJ (b,err)).2])):=by
 obtain⟨k2,k3,l,k4,hl,ha,hz⟩:=O;simp only[bV,rL]at k3;have hzo:br 0=[(.int .i64 0),(.str []),(.int .u32 0),(.str []),(.ak (.slice none 0 0)),(.int .u32 0),(.int .u32 0),(.int .u32 0),(.str []),(.ak (.slice none 0 0)),(.bool false),(.int .u32 0),(.ak (.slice none 0 0)),(.ak (.slice none 0 0)),(.ak (.slice none 0 0)),(.ak (.slice none 0 0)),(.ak (.slice none 0 0)),(.ak (.slice none 0 0)),(.ak (.slice none 0 0)),(.ak (.slice none 0 0)),(.ak (.slice none 0 0)),(.ak (.slice none 0 0)),(.bool false),(.bool false),(.int .i64 0)]:=rfl;have zl:=Qj 0;have zo:=Dn 0;have zf:=mR 0
 by_cases h0:err=0
 ·subst h0;generalize br 0=z at *;have hp:patch z 0 l=some l:=yE (by omega);simp[M5,KM,U5,f4,f6,f7,k2,k3,k4,ha,hp,dJ];exact .bg _ _ (.cons _ _ _ _ (.agg _ _ _ ((hz _).Oh (by simp))) (.cons _ _ _ _ (.pure _ (by simp)) .nil))
 simp[M5,KM,U6,f6,k3,h0,dJ];rw[<-hzo];generalize br 0=z at *;have hp:patch z 0 z=some z:=yE rfl;refine bY.of (bH (P:=pG)) ?_;simp[aa,f4,f6,k2,k3,zo,hp];exact .bg _ _ (.cons _ _ _ _ (.agg _ _ _ ((zf _).Oh (by simp))) (.cons _ _ _ _ (.pure _ (by simp)) .nil))
structure gZ (ns:List (List Nat))(ts:List aR):Prop where
 n:ns.length=ts.length
 l:ts.length<=lim
 k:(aj ts).length<=lim
 c:∀t∈ts,t.ae.length<=lim
theorem zR {ns:List (List Nat)}{ts:List aR}(h:gZ ns ts)(e:Ex)(he:e.sz<=lim)(hm:e.may=true):ai pG 120 [jd.ds (ns.zip ts),.agg e.cells 8] (.bg [.agg (dH ns ts e).1.cells 8,.int .i64 (dH ns ts e).2.1,.int .i64 (dH ns ts e).2.2]):=C2 ns ts h.n h.l h.k h.c lim e he (Nat.le_refl _) hm
theorem zQ {h:Hf}{v:AV}{b:AV}{f:Int}(hx:dU h v b):dU h (.bg [v,.int .i64 f]) (.bg [b,.int .i64 f]):=.bg _ _ (.cons _ _ _ _ hx (.cons _ _ _ _ (.pure _ (by simp)) .nil))
theorem C0 {h:Hf}{L:List AV}{b:ew}{f:Int}(k:kP h L b.cells):dU h (.bg [.agg L 25,.int .i64 f]) (.bg [.agg b.cells 25,.int .i64 f]):=zQ (.agg _ _ _ (k.Oh (by simp)))
theorem kQ {h:Hf}{f:Int}:dU h (.bg [.agg (br 0) 25,.int .i64 f]) (.bg [.agg jU.cells 25,.int .i64 f]):=C0 (mR 0 h)
theorem O_ (ns:List (List Nat))(ts:List aR)(e:Ex):(dH ns ts e).1.sz<=e.sz:=by
 unfold dH
 split
 ·exact Ex.wq ns ts e 0
 have:=Ex.gd e;simp[jy,Ex.sz,Ex.mB];omega
def pO (ns:List (List Nat))(ts:List aR)(e:Ex):List Ex×Int:=
 if e.op=0 then ([],0)else if (dH ns ts e).2.2≠0 then ([],(dH ns ts e).2.2)else if (dH ns ts e).2.1=1∨(dH ns ts e).2.1=2 then ([],203)else ((dH ns ts e).1.split,0)
theorem aa9 {ns:List (List Nat)}{ts:List aR}(hS:gZ ns ts) (e:Ex) (he:e.sz<=lim) (hm:e.maybe=true):ai pG 91 [jd.ds (ns.zip ts),.agg e.cells 8] (.bg [dz.ds (pO ns ts e).1,.int .i64 (pO ns ts e).2]):=by
 refine bf c91 (by simp) (by simp) (by simp[A91]) λ F hF=>?_
 by_cases h0:e.op=0
 ·have ht:pO ns ts e=([],0):=by unfold pO;rw[if_pos h0]
  rw[ht];obtain⟨op,v,t,m,cu,args⟩:=e;simp only[Ex.op]at h0;simp[A91,B91,Tf,Te,adH,hF,Ex.cells,h0];exact zQ (.nil 7)
 have iK:e.may=true:=by
  by_cases hb:e.bare 0
  ·obtain⟨op,v,t,m,cu,args⟩:=e;exact absurd hb.1 h0
  simpa[Ex.maybe,hb]using hm
 have ht:=zR hS e he iK;have hs:=O_ ns ts e;unfold pO;rw[if_neg h0];generalize dH ns ts e=T at *;obtain⟨te,tk,tf⟩:=T;have hsp:=aiF te (by simp at hs;omega);have hte:te.av=.agg te.cells 8:=rfl;rw[hte]at hsp;obtain⟨op,v,t,m,cu,args⟩:=e;simp only[Ex.op]at h0;simp only[Ex.cells]at ht;simp[A91,B91,Tf,Te,adG,hF,Ex.cells,h0];refine ao.pure ht ?_;simp
 by_cases hf:tf=0
 ·subst hf
  by_cases h1:tk=1
  ·simp[ED,Kw,Td,h1];exact zQ (.nil 7)
  by_cases h2:tk=2
  ·simp[ED,Kw,Td,h2];exact zQ (.nil 7)
  simp[ED,Kw,adE,h1,h2];refine ao.pure hsp ?_;simp;exact .pure _ (by simp)
 simp[ED,adF,hf];exact zQ (.nil 7)
def pY (ns:List (List Nat))(ts:List aR)(e:Ex)(kind:Int):Ex×Int:=
 if (dH ns ts e).2.2≠0 then (jy,(dH ns ts e).2.2)else if (dH ns ts e).2.1≠0/\(dH ns ts e).2.1≠kind then (jy,203)else ((dH ns ts e).1,0)
theorem Rz {ns:List (List Nat)}{ts:List aR}(hS:gZ ns ts) (e:Ex) (he:e.sz<=lim) (hm:e.may=true) (kind:Int):ai pG 119 [jd.ds (ns.zip ts),.agg e.cells 8,.int .i64 kind] (.bg [.agg (pY ns ts e kind).1.cells 8,.int .i64 (pY ns ts e kind).2]):=by
 refine bf c119 (by simp) (by simp) (by simp[A119]) λ F hF=>?_;have ht:=zR hS e he hm;unfold pY;generalize dH ns ts e=T at *;obtain⟨te,tk,tf⟩:=T;simp[A119,B119,XT,XS,hF];refine ao.pure ht ?_;simp
 by_cases hf:tf=0
 ·subst hf
  by_cases h1:tk=0
  ·simp[xb,xa,ID,h1];exact .pure _ (by simp)
  by_cases h2:tk=kind
  ·subst h2;simp[xb,xa,ID,h1,hF];exact .pure _ (by simp)
  simp[xb,XR,xa,IE,h1,h2,hF];exact zQ (.agg _ _ _ (qV _))
 simp[xb,xa,IE,hf];exact zQ (.agg _ _ _ (qV _))
theorem aoa (t:jb)(r:List AV)(H:Hp):eo 6 (.dp (.int .u32 t.id::.int .u32 t.table::.str t.name::bR.ds t.ae::.bool t.uniq::.int .u32 t.root::r)) H=.val (bC.av t):=bC.gM t r H
theorem JY (s:bD) (hs:s.dE) (name:List Nat):ai pG 87 [cw.av s,.str name] (.bg [bC.av (s.index name).1,.bool (s.index name).2]):=by
 have ht:=hs.i;unfold lim at ht;refine bf c87 (by simp) (by simp) (by simp[A87]) λ F hF=>?_;simp[A87,B87,ad9,ad8,hF,al.av];refine au.of (λ q F K n ms=>∃i,q=s.indexes.length - i/\i<=s.indexes.length/\F.get 1=some (.str name)/\F.get 2=some (.ptr 0 0)/\F.get 4=some (.ptr 1 0)/\F.get 6=some (.int .i64 (i:Int))/\K.get 0=some (.cells 2 [] (cw.cells s) .nil)/\K.get 1=some (.cells 6 [] [(.int .u32 0),(.int .u32 0),(.str []),(.ak (.slice none 0 0)),(.bool false),(.int .u32 0)] .nil)/\ms=[]/\∀j (_:j<i) (h:j<s.indexes.length),s.indexes[j].name≠name) s.indexes.length ⟨0,by simp[hF]⟩ ?_;clear hF F;rintro q F K n ms ⟨i,rfl,hi,f1,f2,f4,f6,k0,k1,rfl,hj⟩;rw[cC]at k0
 by_cases hlt:i<s.indexes.length
 ·have hx:=bC.ix (ik:=.i64) hlt
  by_cases he:s.indexes[i].name=name
  ·subst he
   have hf:s.index s.indexes[i].name=(s.indexes[i],true):=by
    unfold bD.index e8;rw[find?_eq_some_iff_getElem.2 ⟨by simp,i,hlt,rfl,λ j hj'=>by simpa using hj j hj' (by omega)⟩]
   rw[eG]at hx;simp[Mz,Kx,TN,ad7,f1,f2,f4,f6,k0,k1,al.ag,hlt,hx,aoa,al.av,eG,hf];exact .pure _ (by simp)
  rw[eG]at hx;simp[Mz,Kx,TN,ad6,f1,f2,f4,f6,k0,al.ag,hlt,hx,he,ah i (by omega)];refine⟨_,by omega,i+1,rfl,hlt,rfl,?_⟩;refine⟨by rw[cC],k1,λ j hj' h=>?_⟩
  by_cases e:j=i
  ·subst e;exact he
  exact hj j (by omega) h
 obtain rfl:i=s.indexes.length:=by omega
 have hf:s.index name=(jb.zero,false):=by
  unfold bD.index e8
  rw[find?_eq_none.2 λ x hx=>by
   obtain⟨j,h,rfl⟩:=mem_iff_getElem.1 hx;simpa using hj j h h]
 simp[Mz,Kx,ad5,f2,f4,f6,k0,k1,al.ag,hf];exact .bg _ _ (.cons _ _ _ _ (.agg _ _ _ (amH _)) (.cons _ _ _ _ (.pure _ (by simp)) .nil))
def jX (r:ew×Int):ew×Int:=({r.1 with kind:=0},r.2)
theorem cf {b:ew}{f:Int}(h:f≠0):dJ (b,f)=(jU,f):=by simp[dJ,h]
theorem eu (b:ew):dJ (b,0)=(b,0):=by simp[dJ]
theorem DK (e:Int)(he:e≠0)(p:Nat->Bool):∀n,keeps e p n 0=if (List.range n).any p=true then e else 0
 | 0=>by simp[keeps]
 | n+1=>by
  rw[keeps,DK e he p n,range_succ,any_append]
  cases h:(List.range n).any p<;>cases h2:p n<;>simp[keep,h2,he]
theorem DJ (e err:Int)(h:err≠0)(p:Nat->Bool):∀n,keeps e p n err=err
 | 0=>rfl
 | n+1=>by rw[keeps,DJ e err h p n,eO h]
theorem Gk {h:Hf}{nm:List Nat}{l:List eW}:kP h [(.int .i64 0),(.str nm),(.int .u32 0),(.str []),(.ak (.slice none 0 0)),(.int .u32 0),(.int .u32 0),(.int .u32 0),(.str []),(.ak (.slice none 0 0)),(.bool false),(.int .u32 0),(aW.ds l),(.ak (.slice none 0 0)),(.ak (.slice none 0 0)),(.ak (.slice none 0 0)),(.ak (.slice none 0 0)),(.ak (.slice none 0 0)),(.ak (.slice none 0 0)),(.ak (.slice none 0 0)),(.ak (.slice none 0 0)),(.ak (.slice none 0 0)),(.bool false),(.bool false),(.int .i64 0)] (ew.cells {kind:=0,name:=nm,ae:=l}):=by
 simp[ew.cells,aR.zero,jb.zero]
structure CrF (i:Nat)(F:Fr):Prop where
 f2:F.get 2=some (.ptr 0 0)
 f4:F.get 4=some (.ptr 1 0)
 f6:F.get 6=some (.int .i64 (i:Int))
theorem Ot (x:aE)(hx:x.ae.length<=lim)(i:Nat)(hi:i<x.ae.length)(F:Fr)(K:Hp)(m:Nat)(Q:QA)(G:CrF i F)(f7:F.get 7=some (.int .i64 0))(k0:K.get 0=some (.cells 31 [] x.cells .nil))(k1:K.get 1=some (.cells 25 [] (br 0) .nil))
  (hin:fy x.ae i=true->∀F K m,F.get 4=some (.ptr 1 0)->F.get 5=some (.int .i64 205)->K.get 1=some (.cells 25 [] (br 0) .nil)->Q .ret F K m [])
  (hQ:fy x.ae i=false->∀F,CrF i F->Q .normal F K m []):au ES pG F K m [] (bX 2 Q):=by
 unfold lim at hx;have hci:=kZ hi;refine au.of (λ g F K' m' ms=>∃k:Nat,g=i - k/\k<=i/\CrF i F/\F.get 7=some (.int .i64 (k:Int))/\K'=K/\m'=m/\ms=[]/\∀j (_:j<k) (h:j<x.ae.length),x.ae[j].name≠x.ae[i].name) i ⟨0,by simp,by omega,G,by simpa using f7,rfl,rfl,rfl,λ j h=>by omega⟩ ?_;clear G f7 F;rintro g F K' m' ms ⟨k,rfl,hk,⟨f2,f4,f6⟩,f7,rfl,rfl,rfl,hno⟩;simp only[br]at k1
 by_cases hlt:k<i
 ·have hkl:k<x.ae.length:=by omega
  have y0:=aW.ix (ik:=.i64) hkl;have y1:=aW.ix (ik:=.i64) hi;rw[dQ]at y0 y1
  by_cases he:x.ae[k].name=x.ae[i].name
  ·simp[ES,Ky,T4,f6,f7,hlt];refine bY.of (bH (P:=pG)) ?_;simp[aa,f2,f6,f7,k0,aE.c3,y0,y1,he,aeg,f4,k1];refine hin ?_ _ _ _ (by simp[aa,f4]) (by simp) (by simp[br]);unfold fy;rw[any_eq_true];exact⟨x.ae[k],mem_take_iff_getElem.2 ⟨k,by omega,rfl⟩,by rw[hci];simp[he]⟩
  simp[ES,Ky,T4,f6,f7,hlt];refine bY.of (bH (P:=pG)) ?_;simp[aa,f2,f6,f7,k0,aE.c3,y0,y1,he,aef,ah k (by omega)];refine⟨_,by omega,k+1,rfl,hlt,⟨by simp[aa,f2],by simp[aa,f4],by simp[aa,f6]⟩,rfl,λ j hj h=>?_⟩
  by_cases e:j=k
  ·subst e;exact he
  exact hno j (by omega) h
 obtain rfl:k=i:=by omega
 simp[ES,Ky,f6,f7];refine hQ ?_ _ ⟨by simp[f2],by simp[f4],by simp[f6]⟩;unfold fy;rw[Bool.eq_false_iff,Ne,any_eq_true];rintro⟨d,hd,hd2⟩;obtain⟨j,hj,rfl⟩:=mem_take_iff_getElem.1 hd;rw[hci]at hd2;exact hno j (by omega) (by omega) (by simpa using hd2)
theorem RX (s:bD) (x:aE) (hx:x.ae.length<=lim):ai pG 85 [.agg x.cells 31,.bool (s.named x.table).2] (.bg [.agg (jX (dJ (cY s x 0))).1.cells 25,.int .i64 (jX (dJ (cY s x 0))).2]):=by
 have hx':=hx;unfold lim at hx';refine bf c85 (by simp) (by simp) (by simp[A85]) λ F hF=>?_;unfold cY;generalize s.named x.table=tt at *
 cases hb:tt.2 with
 | true =>
  rw[FM,if_pos rfl,DJ _ _ (by decide),cf (by decide)];simp[A85,B85,T9,T8,aej,hF,hb,jX];exact kQ
 | false =>
  rw[FM,if_neg (by simp),DK _ (by decide)]
  have hbad:(∃i,i<x.ae.length/\fy x.ae i=true)->jX (dJ ({kind:=x.kind,name:=x.table,ae:=x.ae},if (List.range x.ae.length).any (fy x.ae)=true then 205 else 0))=(jU,205):=by
   rintro⟨i,h1,h2⟩;rw[if_pos (any_eq_true.2 ⟨i,mem_range.2 h1,h2⟩),cf (by decide)];rfl
  have hok:(∀i,i<x.ae.length->fy x.ae i=false)->jX (dJ ({kind:=x.kind,name:=x.table,ae:=x.ae},if (List.range x.ae.length).any (fy x.ae)=true then 205 else 0))=({kind:=0,name:=x.table,ae:=x.ae},0):=by
   intro h;rw[if_neg λ e=>by obtain⟨i,h1,h2⟩:=any_eq_true.1 e;simp[h i (mem_range.1 h1)]at h2,eu];rfl
  generalize jX (dJ _)=R at *;simp[A85,B85,T9,T8,aei,hF,hb];refine au.of (λ g F K m ms=>∃i:Nat,g=x.ae.length - i/\i<=x.ae.length/\CrF i F/\K.get 0=some (.cells 31 [] x.cells .nil)/\K.get 1=some (.cells 25 [] (br 0) .nil)/\(∀j,j<i->fy x.ae j=false)/\ms=[]) x.ae.length ⟨0,by simp,by omega,⟨by simp,by simp,by simp⟩,by simp,by simp[br],λ j h=>by omega,rfl⟩ ?_;clear hF F;rintro g F K m ms ⟨i,rfl,hi,G,k0,k1,hno,rfl⟩;obtain⟨f2,f4,f6⟩:=id G
  by_cases hlt:i<x.ae.length
  ·simp[Zl,T5,aeh,f2,f6,k0,aE.c3,al.ag,hlt];refine Ot x hx i hlt _ K m _ ⟨by simp[f2],by simp[f4],by simp[f6]⟩ (by simp) k0 k1 (λ hd F K m f4 f5 k1=>?_) λ hd F ⟨f2,f4,f6⟩=>?_
   ·rw[hbad ⟨i,hlt,hd⟩];simp only[br]at k1;simp[f4,f5,k1];exact kQ
   simp[T7,f6,ah i (by omega)];refine⟨_,by omega,i+1,rfl,hlt,⟨by simp[f2],by simp[f4],by simp⟩,k0,k1,λ j hj=>?_⟩
   by_cases e:j=i
   ·subst e;exact hd
   exact hno j (by omega)
  obtain rfl:i=x.ae.length:=by omega
  rw[hok hno];simp only[br]at k1;simp[Zl,T5,T6,f2,f4,f6,k0,k1,aE.c1,aE.c3,al.ag];exact C0 Gk
theorem J1 {α:Type}(p:α->Bool)(l:List α):(eE p l = -1/\∀a∈l,p a=false)∨∃i,∃h:i<l.length,eE p l=(i:Int)/\p l[i]=true:=by
 by_cases h:∃a∈l,p a=true
 ·cases hf:l.findIdx? p with
  | none =>
   rw[findIdx?_eq_none_iff]at hf;obtain⟨a,h1,h2⟩:=h;rw[hf a h1]at h2;exact absurd h2 (by decide)
  | some i =>
   obtain⟨h1,h2,_⟩:=findIdx?_eq_some_iff_getElem.1 hf;exact .inr ⟨i,h1,by simp[eE,hf],h2⟩
 refine .inl ⟨kW λ j hj=>?_,λ a ha=>?_⟩
 ·cases hp:p l[j]
  ·rfl
  exact absurd ⟨_,getElem_mem hj,hp⟩ h
 cases hp:p a
 ·rfl
 exact absurd ⟨_,ha,hp⟩ h
theorem ze {t:aR}{a b:List Nat}(ha:0<=bS t a)(h:bS t a=bS t b):a=b:=by
 unfold bS at *
 rcases J1 (λ c:eW=>decide (c.name=a)) t.ae with⟨h1,_⟩ | ⟨i,hi,h1,h2⟩
 ·omega
 rcases J1 (λ c:eW=>decide (c.name=b)) t.ae with⟨h3,_⟩ | ⟨j,hj,h3,h4⟩
 ·omega
 obtain rfl:i=j:=by omega
 simp at h2 h4;rw[<-h2,<-h4]
theorem Ah (t:aR)(on:List (List Nat))(e:Int):∀(d i:Nat),onE t on i e≠0->onE t on (i+d) e=onE t on i e
 | 0,i,_=>rfl
 | d+1,i,h=>by
  have h1:=Ah t on e d i h;rw[show i+(d+1)=(i+d)+1 by omega,onE,h1,eO h,eO h]
structure IzF (i:Nat)(F:Fr):Prop where
 f4:F.get 4=some (.ptr 1 0)
 f5:F.get 5=some (.ptr 2 0)
 f6:F.get 6=some (.ptr 3 0)
 f10:F.get 10=some (.ptr 5 0)
 f11:F.get 11=some (.int .i64 (i:Int))
structure IzM (t:aR)(x:aE)(i:Nat)(va:AV)(K:Hp)(m:Nat):Prop where
 hm:6<=m
 k1:K.get 1=some (.cells 31 [] x.cells .nil)
 k2:K.get 2=some (.cells 4 [] (aG.cells t) .nil)
 k3:K.get 3=some (.cells 25 [] (br 0) .nil)
 k5:K.get 5=some (.cells 6 [] [.int .u32 0,.int .u32 t.id,.str x.name,va,.bool x.uniq,.int .u32 0] .nil)
 ow:ar K m va (bR.l ((x.on.take i).map (bS t))) i 1
 da:∀b,blk va=some b->6<=b
theorem Oa {h:Hf}{t:aR}{nm:List Nat}{u:Bool}{va:AV}{l:List Int}(hz:dU h va (bR.ds l)):kP h (ua 0 t nm u va) (ew.cells {kind:=0,table:=t,index:={id:=0,table:=t.id,name:=nm,ae:=l,uniq:=u,root:=0}}):=by
 simp[ua,ew.cells];exact .inr hz
theorem Q8 (t:aR)(x:aE)(i:Nat)(hi:i<=x.on.length)(hl:x.on.length<=lim)(k:Int)(va:AV)(F:Fr)(K:Hp)(m:Nat)(Q:QA)(G:IzF i F)(f12:F.get 12=some (.int .i64 k))(f13:F.get 13=some (.int .i64 0))(M:IzM t x i va K m)
  (hin:k∈(x.on.take i).map (bS t)->∀F K m,F.get 6=some (.ptr 3 0)->F.get 7=some (.int .i64 205)->K.get 3=some (.cells 25 [] (br 0) .nil)->Q .ret F K m [])
  (hQ:k∉(x.on.take i).map (bS t)->∀F,IzF i F->F.get 12=some (.int .i64 k)->Q .normal F K m []):au EP pG F K m [] (bX 2 Q):=by
 unfold lim at hl;have hlen:((x.on.take i).map (bS t)).length=i:=by rw[length_map,length_take];omega
 generalize hL:(x.on.take i).map (bS t)=L at *;have k5:=M.k5;have k3:=M.k3;simp only[br]at k3;have ow:=M.ow;rw[hL]at ow;have hln:=ow.QL;refine au.of (λ g F K' m' ms=>∃j:Nat,g=i - j/\j<=i/\IzF i F/\F.get 12=some (.int .i64 k)/\F.get 13=some (.int .i64 (j:Int))/\K'=K/\m'=m/\ms=[]/\k∉L.take j) i ⟨0,by simp,by omega,G,f12,by simpa using f13,rfl,rfl,rfl,by simp⟩ ?_;clear G f12 f13 F;rintro g F K' m' ms ⟨j,rfl,hj,⟨f4,f5,f6,f10,f11⟩,f12,f13,rfl,rfl,rfl,hno⟩
 by_cases hlt:j<i
 ·have hjl:j<L.length:=by omega
  obtain⟨b,h1,h2⟩:=ow.ld (ik:=.i64) (o:=j*1) (y:=.int .i64 L[j]) hlt (by have:=bR.ajf (j:=0) hjl (by omega);simpa[eR]using this);simp only[Nat.mul_one]at h1 h2;simp at h2
  by_cases he:L[j]=k
  ·simp[EP,Bq,GJ,TL,f6,f10,f12,f13,k5,k3,hln,hlt,h1,h2,he];exact hin (mem_iff_getElem.2 ⟨j,hjl,he⟩) _ _ _ (by simp[f6]) (by simp) (by simp[br])
  simp[EP,Bq,GJ,TK,f10,f12,f13,k5,hln,hlt,h1,h2,he,ah j (by omega)];refine⟨_,by omega,j+1,rfl,hlt,⟨by simp[f4],by simp[f5],by simp[f6],by simp[f10],by simp[f11]⟩,rfl,?_⟩;rw[cZ hjl,mem_append];rintro(h | h)
  ·exact hno h
  exact he (by simp at h;exact h.symm)
 obtain rfl:j=i:=by omega
 simp[EP,Bq,f10,f13,k5,hln];rw[take_of_length_le (by omega)]at hno;exact hQ hno _ ⟨by simp[f4],by simp[f5],by simp[f6],by simp[f10],by simp[f11]⟩ (by simp[f12])
theorem aa7 (s:bD)(hs:s.dE)(x:aE)(hx:x.on.length<=lim)(t:aR)(ht:s.named x.table=(t,true))(hc:t.ae.length<=lim):ai pG 88 [cw.av s,.agg x.cells 31,aG.av t] (.bg [.agg (jX (dJ (indexB s x 0))).1.cells 25,.int .i64 (jX (dJ (indexB s x 0))).2]):=by
 have hx':=hx;unfold lim at hx';refine bf c88 (by simp) (by simp) (by simp[A88]) λ F hF=>?_;unfold indexB;rw[ht];have hix:=JY s hs x.name;generalize s.index x.name=ix at *;have k00:keep 0 200 (!(t,true).2)=0:=by simp[keep]
 rw[k00,FM];have hsv:cw.av s=.agg [aG.ds s.tables,bC.ds s.indexes] 2:=Eq.trans rfl rfl;rw[hsv]at hix;have hiv:bC.av ix.1=.agg (bC.cells ix.1) 6:=Eq.trans rfl rfl;rw[hiv]at hix;simp[A88,B88,ad4,ad3,hF,al.av,aE.c2];refine ao.pure hix ?_
 cases hb:ix.2 with
 | true =>
  rw[if_pos rfl,show onE (t,true).1 x.on x.on.length 202=202 from by have:=Ah t x.on 202 x.on.length 0 (by simp[onE]);simpa[onE]using this,cf (by decide)];simp[TG,ad2,jX];exact kQ
 | false =>
  rw[if_neg (by simp)]
  have hbad:∀i f,i<x.on.length->onE t x.on (i+1) 0=f->f≠0->jX (dJ ({kind:=x.kind,table:=(t,true).1,index:={id:=0,table:=(t,true).1.id,name:=x.name,ae:=x.on.map (bS (t,true).1),uniq:=x.uniq,root:=0}},onE (t,true).1 x.on x.on.length 0))=(jU,f):=by
   intro i f h1 h2 h3;have:=Ah t x.on 0 (x.on.length - (i+1)) (i+1) (by rw[h2];exact h3);rw[show i+1+(x.on.length - (i+1))=x.on.length by omega,h2]at this;simp only;rw[this,cf h3];rfl
  have hok:onE t x.on x.on.length 0=0->jX (dJ ({kind:=x.kind,table:=(t,true).1,index:={id:=0,table:=(t,true).1.id,name:=x.name,ae:=x.on.map (bS (t,true).1),uniq:=x.uniq,root:=0}},onE (t,true).1 x.on x.on.length 0))=({kind:=0,table:=t,index:={id:=0,table:=t.id,name:=x.name,ae:=x.on.map (bS t),uniq:=x.uniq,root:=0}},0):=by
   intro h;simp only;rw[h,eu];rfl
  generalize jX (dJ _)=R at *;simp[TG,ad1,ad0,aE.c2,aE.c5,aU];refine au.of (λ g F K m ms=>∃(i:Nat) (va:AV),g=x.on.length - i/\i<=x.on.length/\IzF i F/\IzM t x i va K m/\onE t x.on i 0=0/\(∀j (_:j<i) (h:j<x.on.length),0<=bS t x.on[j])/\ms=[]) x.on.length ⟨0,.ak (.slice none 0 0),by simp,by omega,⟨by simp,by simp,by simp,by simp,by simp⟩,⟨by omega,by simp,by simp[aU],by simp[br],by simp,by simpa using ar.nil _ _ 1,by simp⟩,rfl,λ j h=>by omega,rfl⟩ ?_;clear hF F;rintro g F K m ms ⟨i,va,rfl,hi,G,M,he,hpos,rfl⟩;obtain⟨f4,f5,f6,f10,f11⟩:=id G;have k1:=M.k1;have k2:=M.k2;have k3:=M.k3;have k5:=M.k5;have hm:=M.hm;rw[aU]at k2;simp only[br]at k3
  by_cases hlt:i<x.on.length
  ·have y0 := bB.ix (ik:=.i64) hlt;rw[jQ]at y0;have FU:=wi t x.on[i] hc;have hcv:eE (λ c:eW=>decide (c.name=x.on[i])) t.ae=bS t x.on[i]:=rfl;rw[hcv,show aG.av t=.agg [.int .u32 t.id,.str t.name,aW.ds t.ae,.int .u32 t.head] 4 from Eq.trans rfl rfl]at FU
   have hon:onE t x.on (i+1) 0=keep (keep 0 201 (decide (bS t x.on[i]<0))) 205 (decide (x.on[i]∈x.on.take i)):=by
    simp only[onE,he,getD,getElem?_eq_getElem hlt,Option.getD_some]
   simp[Zk,TF,f4,f11,k1,aE.c4,al.ag,hlt];simp only[adZ,cH];refine bY.of (iN (l:=[(118,[.agg [.int .u32 t.id,.str t.name,aW.ds t.ae,.int .u32 t.head] 4,.str x.on[i]],λ H n=>.mk (.int .i64 (bS t x.on[i])) H n)]) ?_) ?_
   ·intro y hy;simp only[mem_cons,not_mem_nil,or_false]at hy;subst hy;exact eX FU
   simp[aa,f4,f5,f11,k1,k2,aE.c4,y0];rw[fA];simp
   by_cases hk:bS t x.on[i]<0
   ·rw[hbad i 201 hlt (by rw[hon];simp[keep,hk]) (by decide)];simp[TE,adY,aa,f6,k3,hk];exact kQ
   simp[TE,TM,hk];refine Q8 t x i hi hx (bS t x.on[i]) va _ K m _ ⟨by simp[aa,f4],by simp[aa,f5],by simp[aa,f6],by simp[aa,f10],by simp[aa,f11]⟩ (by simp) (by simp) M (λ hin F K m f6 f7 k3=>?_) λ hno F G12 f12=>?_
   ·have hd:x.on[i]∈x.on.take i:=by
     obtain⟨a,h1,h2⟩:=mem_map.1 hin;have:=ze (t:=t) (a:=x.on[i]) (b:=a) (by omega) h2.symm;rw[this];exact h1
    rw[hbad i 205 hlt (by rw[hon];simp[keep,hk,hd]) (by decide)];simp only[br]at k3;simp[f6,f7,k3];exact kQ
   have hd:x.on[i]∉x.on.take i:=λ h=>hno (mem_map_of_mem h);obtain⟨f4,f5,f6,f10,f11⟩:=G12;have da:=M.da;have hvl:∀b,blk va=some b->b<m:=λ b h=>M.ow.aK h;simp[TJ,f10,f12,k5];generalize hK1:Tr.put K m _=K1;have g1:∀b,b<m->K1.get b=K.get b:=λ b hb=>by rw[<-hK1];simp[dj hb]
   have x1:K1.get m=some (.cells 1 [] [.int .i64 (bS t x.on[i])] .nil):=by rw[<-hK1];simp
   clear hK1;refine ar.jr (k:=1) (new:=[.int .i64 (bS t x.on[i])]) (M.ow.frame (H':=K1) (n':=m+1) (by omega) λ b hb=>g1 b (hvl b hb)) (aB x1) (by simp) (by simp) (by omega) (by omega) (by unfold big;omega) (by omega) (by simp) λ K2 o2 g2=>?_;have nx:∀b,b<6->blk va≠some b:=λ b h1 h2=>by have:=da b h2;omega
   have bk:∀b,b<6->K2.get b=K.get b:=λ b hb=>(g2 b (by omega) (nx b hb)).trans (g1 b (by omega));have k52:=(bk 5 (by omega)).trans k5;simp[f10,f11,k52,TI,ah i (by omega)];have p5:∀b,b≠5->(Tr.put K2 5 (some (.cells 6 [] [.int .u32 0,.int .u32 t.id,.str x.name,.sl (m+1) 0 (i+1) 1,.bool x.uniq,.int .u32 0] .nil))).get b=K2.get b:=λ b h=>by simp[h]
   refine⟨_,by omega,i+1,rfl,hlt,⟨by simp[f4],by simp[f5],by simp[f6],by simp[f10],by simp⟩,⟨.sl (m+1) 0 (i+1) 1,by omega,?_,?_,?_,by simp,?_,λ b hb=>by simp at hb;omega⟩,by rw[hon];simp[keep,hk,hd],λ j hj h=>?_⟩
   ·exact(p5 1 (by omega)).trans ((bk 1 (by omega)).trans M.k1)
   ·exact(p5 2 (by omega)).trans ((bk 2 (by omega)).trans M.k2)
   ·exact(p5 3 (by omega)).trans ((bk 3 (by omega)).trans M.k3)
   ·rw[cZ hlt,map_append,al.bo];exact ar.frame (by simpa[al.dF,eR]using o2) (by omega) λ b hb=>p5 b (by simp at hb;omega)
   by_cases e:j=i
   ·subst e;omega
   exact hpos j (by omega) h
  obtain rfl:i=x.on.length:=by omega
  rw[hok he];have ow:=M.ow;rw[take_length]at ow;have hxo:=ow.dO;obtain⟨hx1,hx2⟩:=ow.oK;simp[Zk,TF,TH,f4,f5,f6,f10,f11,k1,k2,k3,k5,aE.c4,al.ag,hxo]
  have hz:dU (Tr.put K 3 (some (.cells 25 [] (ua 0 t x.name x.uniq va) .nil))).get va (bR.ds (x.on.map (bS t))):=by
   have:=ar.vJ (h:=(Tr.put K 3 (some (.cells 25 [] (ua 0 t x.name x.uniq va) .nil))).get) ow (by decide) (λ c h=>by simp[show c≠3 by have:=M.da c h;omega]) (aN.pure (by simp));simpa[al.ds]using this
  exact C0 (Oa hz)
theorem Ry (ns:List (List Nat))(ts:List aR)(e:Ex)(kind:Int):(nf ns ts e kind 0).2=(pY ns ts e kind).2/\((pY ns ts e kind).2=0->(nf ns ts e kind 0).1=(pY ns ts e kind).1):=by
 unfold nf pY dH;generalize e.bd ns ts 0=X;obtain⟨a,k,f⟩:=X
 by_cases hf:f=0
 ·subst hf
  by_cases h1:k=0
  ·simp[keep,h1]
  by_cases h2:k=kind
  ·simp[keep,h2]
  simp[keep,h1,h2]
 simp[keep,hf]
theorem Jz (ae:List eW)(r:List Ex):∀(d j:Nat),(dY ae r j 0).2≠0->(dY ae r (j+d) 0).2=(dY ae r j 0).2
 | 0,j,_=>rfl
 | d+1,j,h=>by
  have h1:=Jz ae r d j h;rw[show j+(d+1)=(j+d)+1 by omega,dY,h1];simp only[nf];rw[Ex.Kn _ _ _ _ h,eO h]
theorem JW (t:aR)(rs:List (List Ex)){f:Int}(h:f≠0):(ij t rs f).2=f:=by
 cases rs with
 | nil=>rfl
 | cons r rs=>rw[ij,eO h,if_pos h]
theorem gZ.nil:gZ [] []:=⟨rfl,by simp[lim],by simp[aj,lim],by simp⟩
theorem abe (e:Ex)(he:e.sz<=lim)(hm:e.may=true)(kind:Int):ai pG 119 [.ak (.slice none 0 0),.agg e.cells 8,.int .i64 kind] (.bg [.agg (pY [] [] e kind).1.cells 8,.int .i64 (pY [] [] e kind).2]):=
 (Rz .nil e he hm kind).conv (by simp) λ D xs hv=>by
  cases hv with
  | cons _ y0 _ ys h0 hv =>
  exact .cons _ _ _ _ (NV.vr (by simp:NV (.ak (.slice none 0 0)) (jd.ds [])) h0) hv
structure IwF (i:Nat)(F:Fr):Prop where
 f2:F.get 2=some (.ptr 0 0)
 f3:F.get 3=some (.ptr 1 0)
 f4:F.get 4=some (.ptr 2 0)
 f6:F.get 6=some (.ptr 3 0)
 f7:F.get 7=some (.int .i64 (i:Int))
structure IwM (t:aR)(x:aE)(i:Nat)(L:List (List Ex))(va:AV)(K:Hp)(m:Nat):Prop where
 hm:4<=m
 tp:cS K m
 hL:L.length=i
 k0:K.get 0=some (.cells 31 [] x.cells .nil)
 k1:K.get 1=some (.cells 4 [] (aG.cells t) .nil)
 k2:K.get 2=some (.cells 25 [] (br 0) .nil)
 k3:K.get 3=some (.cells 25 [] (lF 0 t va) .nil)
 ow:ar K m va (dw.l L) i 1
 da:∀b,blk va=some b->4<=b
theorem IwM.step {t:aR}{x:aE}{i:Nat}{L:List (List Ex)}{va:AV}{K K':Hp}{m m':Nat}(M:IwM t x i L va K m)(h:m<=m')(tp:cS K' m')(hk:∀b,b<m->K'.get b=K.get b):IwM t x i L va K' m':=by
 have hm:=M.hm;exact⟨by omega,tp,M.hL,(hk 0 (by omega)).trans M.k0,(hk 1 (by omega)).trans M.k1,(hk 2 (by omega)).trans M.k2,(hk 3 (by omega)).trans M.k3,M.ow.frame (by omega) λ b hb=>hk b (M.ow.aK hb),M.da⟩
theorem N9 (t:aR) (x:aE) (i:Nat) (L:List (List Ex)) (va:AV) (hi:i<x.rows.length) (rw':List Ex) (hrw:x.rows[i]=rw') (hlen:rw'.length=t.ae.length) (hr1:rw'.length<=lim) (hr2:∀e∈rw',e.sz<=lim/\e.may=true) (F:Fr) (K0:Hp) (m:Nat) (Q:QA) (G:IwF i F) (f8:F.get 8=some (.ak (.slice none 0 0))) (f9:F.get 9=some (.int .i64 0)) (M:IwM t x i L va K0 m)
  (hbad:∀f,f≠0->(dY t.ae rw' rw'.length 0).2=f->∀F K m,F.get 4=some (.ptr 2 0)->F.get 5=some (.int .i64 f)->K.get 2=some (.cells 25 [] (br 0) .nil)->Q .ret F K m [])
  (hQ:(dY t.ae rw' rw'.length 0).2=0->∀F K m' vl,IwF i F->F.get 8=some vl->IwM t x i L va K m'->ar K m' vl (dz.l (dY t.ae rw' rw'.length 0).1) rw'.length 8->(∀c,blk vl=some c->m<=c)->Q .normal F K m' []):au My pG F K0 m [] (bX 2 Q):=by
 unfold lim at hr1;have hm:=M.hm;refine au.of (λ g F K' m' ms=>∃(j:Nat) (vl:AV),g=rw'.length - j/\j<=rw'.length/\IwF i F/\F.get 8=some vl/\F.get 9=some (.int .i64 (j:Int))/\m<=m'/\cS K' m'/\(∀b,b<m->K'.get b=K0.get b)/\ar K' m' vl (dz.l (dY t.ae rw' j 0).1) j 8/\(∀c,blk vl=some c->m<=c)/\(dY t.ae rw' j 0).2=0/\ms=[]) rw'.length ⟨0,.ak (.slice none 0 0),by simp,by omega,G,f8,by simpa using f9,Nat.le_refl _,M.tp,λ _ _=>rfl,by simpa[dY]using ar.nil _ _ 8,by simp,rfl,rfl⟩ ?_;clear G f8 f9 F;rintro g F K m' ms ⟨j,vl,rfl,hj,⟨f2,f3,f4,f6,f7⟩,f8,f9,hmm,tp,kf,ol,dl,he,rfl⟩
 replace M:=M.step hmm tp kf
 have k0:=M.k0;have k1:=M.k1;have k2:=M.k2;have hZ:=dw.ix (ik:=.i64) hi;rw[jR,hrw]at hZ;rw[aU]at k1;simp only[br]at k2
 by_cases hlt:j<rw'.length
 ·have hlc:j<t.ae.length:=by omega
  have hxy:=dz.ix (ik:=.i64) hlt;have hld:=λ H=>dz.gM rw'[j] (dz.l (rw'.drop (j+1))) H;have hcx:=aW.ix (ik:=.i64) hlc;rw[dQ]at hcx;obtain⟨hz,hm2⟩:=hr2 _ (getElem_mem hlt);have hft:ai pG 119 [.ak (.slice none 0 0),rw'[j].av,.int .i64 t.ae[j].kind] (.bg [.agg (pY [] [] rw'[j] t.ae[j].kind).1.cells 8,.int .i64 (pY [] [] rw'[j] t.ae[j].kind).2]):=abe rw'[j] hz hm2 t.ae[j].kind
  have hrl:dY t.ae rw' (j+1) 0=((dY t.ae rw' j 0).1++[(nf [] [] rw'[j] t.ae[j].kind 0).1],(nf [] [] rw'[j] t.ae[j].kind 0).2):=by
   rw[dY,he,AX hlt,kZ hlc]
  obtain⟨hx1,hx2⟩:=Ry [] [] rw'[j] t.ae[j].kind;generalize pY [] [] rw'[j] t.ae[j].kind=X at *;obtain⟨xe,xf⟩:=X;simp only at hx1 hx2 hft;simp[My,Tw,f3,f9,k1,al.ag,hlc];simp only[adQ,cH];refine bY.of (iN (l:=[(119,[.ak (.slice none 0 0),rw'[j].av,.int .i64 t.ae[j].kind],λ H n=>.mk (.bg [.agg xe.cells 8,.int .i64 xf]) H n)]) ?_) ?_
  ·intro y hy;simp only[mem_cons,not_mem_nil,or_false]at hy;subst hy;exact eX hft
  have n3:K.get m'=none:=tp _ (Nat.le_refl _);simp[aa,f2,f3,f7,f9,k0,k1,aE.c6,hZ,hxy,hcx,nj];rw[fA];simp[bw,bL,n3];generalize hK1:Tr.put (Tr.put K m' _) m' _=K1;have g1:∀b,b<m'->K1.get b=K.get b:=λ b hb=>by rw[<-hK1];simp[dj hb]
  have x1:K1.get m'=some (.cells 8 [] xe.cells .nil):=by rw[<-hK1];simp
  have t1:cS K1 (m'+1):=λ b hb=>by
   have e1:¬b=m':=by omega
   rw[<-hK1];simp[e1,tp b (by omega)]
  clear hK1;have k21:=(g1 2 (by omega)).trans k2
  by_cases hf:xf=0
  ·subst hf;rw[hx2 rfl,hx1]at hrl;simp[GI,TC,aa,f8,x1];generalize hK2:Tr.put K1 (m'+1) _=K2;have g2:∀b,b<m'+1->K2.get b=K1.get b:=λ b hb=>by rw[<-hK2];simp[dj hb]
   have x2:K2.get (m'+1)=some (.cells 8 [] xe.cells .nil):=by rw[<-hK2];simp
   have t2:cS K2 (m'+1+1):=λ b hb=>by
    have e1:¬b=m'+1:=by omega
    rw[<-hK2];simp[e1,t1 b (by omega)]
   clear hK2;have bk:∀b,b<m'->K2.get b=K.get b:=λ b hb=>(g2 b (by omega)).trans (g1 b hb);refine ar.jr (k:=1) (new:=xe.cells) (ol.frame (H':=K2) (n':=m'+1+1) (by omega) λ b hb=>bk b (ol.aK hb)) (aB x2) (by simp) (by simp) (by omega) (by omega) (by unfold big;omega) (by omega) (by simp) λ K3 o3 g3=>?_;simp[aa,TB,f9,ah j (by omega)];have nl:∀c,c<m->blk vl≠some c:=λ c h1 h2=>by have:=dl c h2;omega
   refine⟨_,by omega,j+1,rfl,hlt,⟨by simp[aa,f2],by simp[aa,f3],by simp[aa,f4],by simp[aa,f6],by simp[aa,f7]⟩,by omega,by omega,λ b hb=>?_,λ b hb=>?_,?_,by omega,by rw[hrl]⟩
   ·exact(g3 b (by omega) λ h=>by have:=ol.aK h;omega).trans (t2 b (by omega))
   ·exact(g3 b (by omega) (nl b hb)).trans ((bk b (by omega)).trans (kf b hb))
   rw[hrl];simpa[al.bo,al.dF,nj]using o3
  have htot:(dY t.ae rw' rw'.length 0).2=xf:=by
   have:=Jz t.ae rw' (rw'.length - (j+1)) (j+1) (by rw[hrl,hx1];exact hf);rw[show j+1+(rw'.length - (j+1))=rw'.length by omega,hrl,hx1]at this;exact this
  simp[GI,TD,aa,f4,k21,hf];exact hbad xf hf htot _ _ _ (by simp[aa,f4]) (by simp) (by simp[br])
 obtain rfl:j=rw'.length:=by omega
 simp[My,Tw,f3,f9,k1,al.ag,hlen];exact hQ he _ _ _ vl ⟨by simp[f2],by simp[f3],by simp[f4],by simp[f6],by simp[f7]⟩ (by simp[f8]) M ol dl
theorem Q6 (s:bD) (x:aE) (hx:x.rows.length<=lim) (hr:∀r∈x.rows,r.length<=lim/\∀e∈r,e.sz<=lim/\e.may=true) (t:aR) (ht:s.named x.table=(t,true)):ai pG 89 [.agg x.cells 31,aG.av t] (.bg [.agg (jX (dJ (cV s x 0))).1.cells 25,.int .i64 (jX (dJ (cV s x 0))).2]):=by
 have hx':=hx;unfold lim at hx';refine bf c89 (by simp) (by simp) (by simp[A89]) λ F hF=>?_;unfold cV;rw[ht,show keep 0 200 (!(t,true).2)=0 by simp[keep]]
 have hbad:∀f,f≠0->(ij t x.rows 0).2=f->jX (dJ ({kind:=x.kind,table:=(t,true).1,rows:=(ij (t,true).1 x.rows 0).1},(ij (t,true).1 x.rows 0).2))=(jU,f):=by
  intro f h1 h2;simp only[h2];rw[cf h1];rfl
 have hok:∀L,ij t x.rows 0=(L,0)->jX (dJ ({kind:=x.kind,table:=(t,true).1,rows:=(ij (t,true).1 x.rows 0).1},(ij (t,true).1 x.rows 0).2))=({kind:=0,table:=t,rows:=L},0):=by
  intro L h;simp only[h];rw[eu];rfl
 generalize jX (dJ _)=R at *;simp[A89,B89,adX,adW,adV,hF,al.av,aU];refine au.ofZ (λ g F K m ms=>∃(i:Nat) (L:List (List Ex)) (va:AV),g=x.rows.length - i/\i<=x.rows.length/\IwF i F/\IwM t x i L va K m/\ij t x.rows 0=(L++(ij t (x.rows.drop i) 0).1,(ij t (x.rows.drop i) 0).2)/\ms=[]) x.rows.length (Zs.refl ⟨0,[],.ak (.slice none 0 0),by simp,by omega,⟨by simp,by simp,by simp,by simp,by simp⟩,⟨by omega,λ b hb=>by simp[show ¬b=0 by omega,show ¬b=1 by omega,show ¬b=2 by omega,show ¬b=3 by omega],rfl,by simp,by simp[aU],by simp[br],by simp[lF],by simpa using ar.nil _ _ 1,by simp⟩,by simp,rfl⟩) ?_;clear hF F;rintro g F K m ms ⟨i,L,va,rfl,hi,G,M,he,rfl⟩;obtain⟨f2,f3,f4,f6,f7⟩:=id G;have k0:=M.k0;have k1:=M.k1;have k2:=M.k2;have k3:=M.k3;have hm:=M.hm;rw[aU]at k1;simp only[br]at k2
 by_cases hlt:i<x.rows.length
 ·have hZ:=dw.ix (ik:=.i64) hlt;obtain⟨hr1,hr2⟩:=hr _ (getElem_mem hlt);rw[jR]at hZ;rw[drop_eq_getElem_cons hlt,ij]at he;generalize hrw:x.rows[i]=rw' at *;simp[Zj,Tx,f2,f7,k0,aE.c6,al.ag,hlt];simp only[adU,cH];refine bY.of (bH (P:=pG)) ?_;simp[aa,f2,f3,f7,k0,k1,aE.c6,hZ,al.ag]
  by_cases hlen:rw'.length=t.ae.length
  ·simp[keep,hlen]at he;simp[adS,adR,hlen];refine N9 t x i L va hlt rw' hrw hlen hr1 hr2 _ K m _ ⟨by simp[aa,f2],by simp[aa,f3],by simp[aa,f4],by simp[aa,f6],by simp[aa,f7]⟩ (by simp) (by simp) M (λ f h1 h2 F K m f4 f5 k2=>?_) λ h2 F2 K2 m2 vl ⟨f2,f3,f4,f6,f7⟩ f8 M2 ol dl=>?_
   ·rw[hlen]at h2;rw[hbad f h1 (by rw[he];simp only[h2];exact JW _ _ h1)];simp only[br]at k2;simp[f4,f5,k2];exact kQ
   have k32:=M2.k3;simp only[lF]at k32;have hone:=ol.dO;obtain⟨hl1,hl2⟩:=ol.oK;have hm2:=M2.hm;have tp2:=M2.tp;have ow:=M2.ow;have da:=M2.da;have hL:=M2.hL;simp[TA,f6,f8,k32,hl1,hl2];generalize hK3:Tr.put K2 m2 _=K3;have g3:∀c,c<m2->K3.get c=K2.get c:=λ c hc=>by rw[<-hK3];simp[dj hc]
   have x3:K3.get m2=some (.cells 1 [] [vl] .nil):=by rw[<-hK3];simp
   have t3:cS K3 (m2+1):=λ c hc=>by
    have e1:¬c=m2:=by omega
    rw[<-hK3];simp[e1,tp2 c (by omega)]
   clear hK3;refine ar.jr (k:=1) (new:=[vl]) (ow.frame (H':=K3) (n':=m2+1) (by omega) λ c hc=>g3 c (ow.aK hc)) (aB x3) (by simp) (by simp) (by omega) (by omega) (by unfold big;omega) (by omega) (by simp[hone]) λ K4 o4 g4=>?_;have na:∀c,c<4->blk va≠some c:=λ c h1 h2=>by have:=da c h2;omega
   have ob:=(g4 3 (by omega) (na 3 (by omega))).trans ((g3 3 (by omega)).trans k32);simp[f6,ob,Tz,f7,ah i (by omega)];generalize j8:Tr.put K4 3 _=K5;have g5:∀c,c≠3->K5.get c=K4.get c:=λ c hc=>by rw[<-j8];simp[hc]
   have ko5:K5.get 3=some (.cells 25 [] (lF 0 t (.sl (m2+1) 0 (i+1) 1)) .nil):=by rw[<-j8];simp[lF]
   clear j8;have bk:∀c,c<m2->c≠3->blk va≠some c->K5.get c=K2.get c:=λ c h1 h3 h4=>(g5 c h3).trans ((g4 c (by omega) h4).trans (g3 c h1));have JG:ar K5 (m2+1+1) (.sl (m2+1) 0 (i+1) 1) (dw.l L++[vl]) (i+1) 1:=o4.frame (by omega) λ c hc=>g5 c (by simp at hc;omega);have hva:∀c,blk va=some c->c<m:=λ c hc=>M.ow.aK hc;have ol5:ar K5 (m2+1+1) vl (dz.l (dY t.ae rw' rw'.length 0).1) rw'.length 8:=ol.frame (by omega) λ c hc=>bk c (ol.aK hc) (by have:=dl c hc;omega) λ h=>by have h1:=hva c h;have h2:=dl c hc;omega
   generalize hF2:(Fp 7 _ _:Fr)=F3;have w2:F3.get 2=some (.ptr 0 0):=by rw[<-hF2];simp[f2]
   have w3:F3.get 3=some (.ptr 1 0):=by rw[<-hF2];simp[f3]
   have w4:F3.get 4=some (.ptr 2 0):=by rw[<-hF2];simp[f4]
   have w6:F3.get 6=some (.ptr 3 0):=by rw[<-hF2];simp[f6]
   have w7:F3.get 7=some (.int .i64 ((i+1:Nat):Int)):=by rw[<-hF2];simp
   clear hF2
   obtain⟨hh,K6,hsh,Qu,g6⟩:=C_ (F:=F3) (F2:=qN F3 [2,3,4,6,7]) (λ t v hv=>rV hv) JG ol5 (by omega) (by simp) (λ c hc hc2=>by
    have:=ol.aK hc2;simp at hc;omega)
   have nb:∀c,c<m2->blk (AV.sl (m2+1) 0 (i+1) 1)≠some c:=λ c h1 h2=>by simp at h2;omega
   have nl:∀c,c<m->blk vl≠some c:=λ c h1 h2=>by have:=dl c h2;omega
   have bk6:∀c,c<3->K6.get c=K2.get c:=λ c hc=>(g6 c (nb c (by omega)) (nl c (by omega))).trans (bk c (by omega) (by omega) (na c (by omega)));rw[hlen]at h2;rw[h2]at he;refine⟨x.rows.length - (i+1),by omega,hh,_,K6,hsh,i+1,rfl,hlt,⟨(dC (by simp)).trans w2,(dC (by simp)).trans w3,(dC (by simp)).trans w4,(dC (by simp)).trans w6,(dC (by simp)).trans w7⟩,L++[(dY t.ae rw' rw'.length 0).1],⟨.sl (m2+1) 0 (i+1) 1,by omega,λ c hc=>?_,by simp[hL],(bk6 0 (by omega)).trans M2.k0,(bk6 1 (by omega)).trans M2.k1,(bk6 2 (by omega)).trans M2.k2,?_,?_,λ c hc=>by simp at hc;omega⟩,?_⟩
   ·have e1:blk (AV.sl (m2+1) 0 (i+1) 1)≠some c:=λ h=>by simp at h;omega
    have e2:blk vl≠some c:=λ h=>by have:=ol.aK h;omega
    exact(g6 c e1 e2).trans ((g5 c (by omega)).trans ((g4 c (by omega) λ h=>by have:=ow.aK h;omega).trans (t3 c (by omega))))
   ·exact(g6 3 (nb 3 (by omega)) (nl 3 (by omega))).trans ko5
   ·rw[al.bo,al.dF,jR,al.ds,qK];exact Qu
   rw[he,hlen];simp
  have hlen':¬(rw'.length:Int)=(t.ae.length:Int):=by omega
  simp[keep,hlen]at he;simp[adT,aa,f4,k2,hlen];rw[hbad 204 (by decide) (by rw[he])];exact kQ
 obtain rfl:i=x.rows.length:=by omega
 rw[drop_length,ij,append_nil]at he;rw[hok L he];have ow:=M.ow;have hxo:=ow.dO;obtain⟨hx1,hx2⟩:=ow.oK;simp only[lF]at k3;simp[Zj,Tx,Ty,f2,f4,f6,f7,k0,k2,k3,aE.c6,al.ag,hxo]
 have hz:dU (Tr.put K 2 (some (.cells 25 [] (lF 0 t va) .nil))).get va (dw.ds L):=by
  have:=ar.vJ (h:=(Tr.put K 2 (some (.cells 25 [] (lF 0 t va) .nil))).get) ow (by decide) (λ c h=>by simp[show c≠2 by have:=M.da c h;omega]) (aN.pure (by simp));rw[<-M.hL]at this;exact this
 exact C0 (pM hz).2
def eBo:al Bool 1:=⟨λ b=>[.bool b],λ _=>rfl,λ _=>by simp,λ _=>by simp[bm,AV.one]⟩
theorem RL (b:Bool):eBo.cells b=[.bool b]:=rfl
def j1 (t:aR)(l:List ku):List Bool:=(List.range t.ae.length).map λ c:Nat=>l.any λ y=>decide (bS t y.name=(c:Int))
@[simp] theorem alz (t:aR)(l:List ku):(j1 t l).length=t.ae.length:=by simp[j1]
theorem qG (t:aR)(l:List ku){k:Nat}(h:k<(j1 t l).length):(j1 t l)[k]=l.any λ y=>decide (bS t y.name=(k:Int)):=by simp[j1]
theorem Ni (t:aR)(l:List ku)(y:ku){k:Nat}(hy:bS t y.name=(k:Int)):(j1 t l).set k true=j1 t (l++[y]):=by
 refine ext_getElem (by simp) λ i h1 h2=>?_;rw[getElem_set,qG,qG,any_append]
 by_cases e:k=i
 ·subst e;simp[hy]
 rw[if_neg e];have:¬(k:Int)=(i:Int):=by omega
 simp[hy,this]
theorem Nj (t:aR):j1 t []=replicate t.ae.length false:=by
 refine ext_getElem (by simp) λ i h1 h2=>?_;rw[qG];simp
structure UzF (t:aR)(vb:AV)(F:Fr):Prop where
 f2:F.get 2=some (jd.ds [(t.name,t)])
 f3:F.get 3=some (.ptr 0 0)
 f4:F.get 4=some (.ptr 1 0)
 f6:F.get 6=some (.ptr 2 0)
 f8:F.get 8=some (.ptr 3 0)
 f9:F.get 9=some vb
structure UzM (t:aR)(x:aE)(N:List Ex)(B:List Bool)(len:Nat)(va:AV)(R:List AV)(vb:AV)(K:Hp)(m:Nat):Prop where
 hm:4<=m
 tp:cS K m
 k0:K.get 0=some (.cells 31 [] x.cells .nil)
 k1:K.get 1=some (.cells 4 [] (aG.cells t) .nil)
 k2:K.get 2=some (.cells 25 [] (br 0) .nil)
 k3:K.get 3=some (.cells 25 [] (iG 0 t va (.ak (.slice none 0 0))) .nil)
 oa:ar K m va R len 8
 ob:ar K m vb (eBo.l B) len 1
 da:∀b,blk va=some b->4<=b/\blk vb≠some b
 db:∀b,blk vb=some b->4<=b
 fz:∀h,aN h R (dz.l N)
theorem M_ (t:aR) (x:aE) (htc:t.ae.length<=lim) (F:Fr) (K:Hp) (m:Nat) (Q:QA) (G:UzF t (.ak (.slice none 0 0)) F) (f10:F.get 10=some (.int .i64 0)) (M:UzM t x [] [] 0 (.ak (.slice none 0 0)) [] (.ak (.slice none 0 0)) K m)
  (hQ:∀va R vb F K m,UzF t vb F->UzM t x (cA t.ae.length) (replicate t.ae.length false) t.ae.length va R vb K m->Q .normal F K m []):au Mx pG F K m [] (bX 0 Q):=by
 unfold lim at htc;refine au.of (λ q F K m ms=>∃(i:Nat) (va:AV) (R:List AV) (vb:AV),q=t.ae.length - i/\i<=t.ae.length/\UzF t vb F/\F.get 10=some (.int .i64 (i:Int))/\UzM t x (cA i) (replicate i false) i va R vb K m/\ms=[]) t.ae.length ⟨0,_,[],_,by simp,by omega,G,by simpa using f10,by simpa[cA]using M,rfl⟩ ?_;clear G f10 M F K m;rintro q F K m ms ⟨i,va,R,vb,rfl,hi,⟨f2,f3,f4,f6,f8,f9⟩,f10,M,rfl⟩;have k1:=M.k1;have k3:=M.k3;have hm:=M.hm;have tp:=M.tp;rw[aU]at k1;simp only[iG]at k3
 by_cases hlt:i<t.ae.length
 ·simp[Mx,Ti,adL,f4,f8,f10,k1,k3,al.ag,hlt];generalize hK1:Tr.put K m _=K1;have g1:∀c,c<m->K1.get c=K.get c:=λ c hc=>by rw[<-hK1];simp[dj hc]
  have x1:K1.get m=some (.cells 8 [] (jS i) .nil):=by rw[<-hK1];simp[jS]
  have t1:cS K1 (m+1):=λ c hc=>by
   have e1:¬c=m:=by omega
   rw[<-hK1];simp[e1,tp c (by omega)]
  clear hK1;have la:∀b,blk va=some b->b<m:=λ b h=>M.oa.aK h;have lb:∀b,blk vb=some b->b<m:=λ b h=>M.ob.aK h;have na:∀c,c<4->blk va≠some c:=λ c h1 h2=>by have:=(M.da c h2).1;omega
  have nb:∀c,c<4->blk vb≠some c:=λ c h1 h2=>by have:=M.db c h2;omega
  refine ar.jr (k:=1) (new:=jS i) (M.oa.frame (H':=K1) (n':=m+1) (by omega) λ c hc=>g1 c (la c hc)) (aB x1) (by simp) (by simp[jS]) (by omega) (by omega) (by unfold big;omega) (by omega) (by simp[jS]) λ K2 o2 g2=>?_;have ob:=(g2 3 (by omega) (na 3 (by omega))).trans ((g1 3 (by omega)).trans k3);simp[f8,ob,adK,f9];generalize hK3:Tr.put (Tr.put K2 3 _) _ _=K3;have g3:∀c,c≠3->c<m+1+1->K3.get c=K2.get c:=λ c h1 h2=>by rw[<-hK3];simp[h1,dj h2]
  have x3:K3.get 3=some (.cells 25 [] (iG 0 t (.sl (m+1) 0 (i+1) 8) (.ak (.slice none 0 0))) .nil):=by rw[<-hK3];simp[iG,dj (show 3<m+1+1 by omega)]
  have y3:K3.get (m+1+1)=some (.cells 1 [] [.bool false] .nil):=by rw[<-hK3];simp
  have t3:cS K3 (m+1+1+1):=λ c hc=>by
   have e1:¬c=3:=by omega
   have e2:¬c=m+1+1:=by omega
   rw[<-hK3];simp[e1,e2];exact(g2 c (by omega) λ h=>by have:=la c h;omega).trans (t1 c (by omega))
  clear hK3;have bb:∀c,blk vb=some c->K3.get c=K.get c:=λ c hc=>(g3 c (by have:=M.db c hc;omega) (by have:=lb c hc;omega)).trans ((g2 c (by have:=lb c hc;omega) λ h=>(M.da c h).2 hc).trans (g1 c (lb c hc)));refine ar.jr (k:=1) (new:=[.bool false]) (M.ob.frame (H':=K3) (n':=m+1+1+1) (by omega) bb) (aB y3) (by simp) (by simp) (by omega) (by omega) (by unfold big;omega) (by omega) (by simp) λ K4 o4 g4=>?_;simp[adJ,f10,ah i (by omega)];have bk:∀c,c<3->K4.get c=K.get c:=λ c hc=>(g4 c (by omega) (nb c (by omega))).trans ((g3 c (by omega) (by omega)).trans ((g2 c (by omega) (na c (by omega))).trans (g1 c (by omega))));refine⟨_,by omega,i+1,rfl,hlt,.sl (m+1) 0 (i+1) 8,R++jS i,.sl (m+1+1+1) 0 (i+1) 1,⟨by simp[f2],by simp[f3],by simp[f4],by simp[f6],by simp[f8],by simp⟩,by omega,⟨by omega,λ c hc=>?_,(bk 0 (by omega)).trans M.k0,(bk 1 (by omega)).trans M.k1,(bk 2 (by omega)).trans M.k2,?_,?_,?_,λ c hc=>by simp at hc;simp;omega,λ c hc=>by simp at hc;omega,λ h=>?_⟩⟩
  ·exact(g4 c (by omega) λ h=>by have:=lb c h;omega).trans (t3 c (by omega))
  ·exact(g4 3 (by omega) (nb 3 (by omega))).trans x3
  ·exact o2.frame (by omega) λ c hc=>by
    simp at hc;exact(g4 c (by omega) λ h=>by have:=lb c h;omega).trans (g3 c (by omega) (by omega))
  ·rw[replicate_succ',al.bo,al.dF,RL];exact o4
  rw[lR,al.bo,al.dF];exact(M.fz h).append (rj h i)
 obtain rfl:i=t.ae.length:=by omega
 simp[Mx,Ti,f4,f10,k1,al.ag];exact hQ va R vb _ K m ⟨by simp[f2],by simp[f3],by simp[f4],by simp[f6],by simp[f8],by simp[f9]⟩ M
end Go.Abs
