/- A part. -/
import Derived.Test.YtlhafglnokpioaaGreatBt4
noncomputable section
namespace Go.Abs
open List
open Go.Proofs
open Classical
set_option maxRecDepth 100000
section
variable {F:Fr}{H:Hp}{n:Nat}
@[simp] theorem ap' (q:LK)(m k v:G):kC q m k v F H n=oE (m.f F) λ m=>oE (k.f F) λ k=>oE (v.f F) λ v=>qh q m k v H:=by
 unfold kC oE
 cases m.f F with
 |none=>rfl
 |some a=>dsimp only;cases k.f F with
  |none=>rfl
  |some b=>dsimp only;cases v.f F<;>rfl
@[simp] theorem ajP (q:LK)(z:AV)(ok:Bool)(m k:G):jq q z ok m k F H n=oE (m.f F) λ m=>oE (k.f F) λ k=>eW q z ok m k H:=by
 unfold jq oE
 cases m.f F with
 |none=>rfl
 |some a=>dsimp only;cases k.f F<;>rfl
end
def KV:Nat->List Int->List (AV×AV×Nat)
 |_,[]=>[]
 |i,x::r=>(.int .u32 x,zI 1,i)::KV (i+1) r
theorem Ar (x:Int):∀(l:List Int)(i:Nat),KV i (l++[x])=KV i l++[(.int .u32 x,zI 1,i+l.length)]
 |[],i=>by simp[KV]
 |y::r,i=>by simp[KV,Ar x r (i+1)];omega
theorem nX (a b:Int):dH .i (.int .u32 a) (.int .u32 b)=some (decide (a=b)):=by
 simp only[dH,if_true]
 congr 1
theorem sJ (k:Int):∀(l:List Int)(i:Nat),findKey .i (.int .u32 k) (KV i l)=some (if k∈l then some (zI 1)else none)
 |[],i=>rfl
 |y::r,i=>by
  simp only[KV,findKey,nX]
  by_cases h:k=y
  ·simp[h]
  simp[h,sJ k r (i+1)]
theorem acS (k:Int)(v:AV):∀(l:List Int)(i:Nat),k∉l->iC .i (.int .u32 k) v (KV i l)=some none
 |[],i,_=>rfl
 |y::r,i,h=>by
  simp only[mem_cons,not_or]at h;simp only[KV,iC,nX];simp[h.1,acS k v r (i+1) h.2]
theorem acR (k:Int)(v:AV):∀(l:List Int)(i:Nat),k∈l->∃es,iC .i (.int .u32 k) v (KV i l)=some (some es)/\findKey .i (.int .u32 k) es=some (some v)
 |[],i,h=>by simp at h
 |y :: r,i,h=>by
  simp only[KV,iC,nX]
  by_cases e:k=y
  ·subst e;simp[findKey,nX]
  have h2:k∈r:=by simpa[e]using h
  obtain⟨es,h3,h4⟩:=acR k v r (i+1) h2;simp[e,h3,findKey,nX,h4]
theorem T8 (k:Int)(l:List Int)(i:Nat)(_h:k∉l):findKey .i (.int .u32 k) (KV i l++[(.int .u32 k,zI 1,i+l.length)])=some (some (zI 1)):=by
 rw[<-Ar,sJ];simp
structure S85 (s:bB)(Fo:Fr)(l:List Int)(K:Hp)(n:Nat):Prop where
 k0:K.get 0=aG 2 (fe.cells s)
 k1:K.get 1=aG 1 [.bool false]
 k2:K.get 2=some (.map (KV 0 l) l.length)
 k3:K.get 3=aG 1 [.map 2]
 k4:K.get 4=aG 2 (fe.cells s)
 k5:K.get 5=some (.loop .ready .normal 120 Fo [25] zN.1 zN.2)
 k6:K.get 6=some .jX
 n7:7<=n
 top:cA K n
structure X85 (Fo:Fr)(K:Hp):Prop where
 k1:K.get 1=aG 1 [.bool false]
 k5:∃nt G ps a b,K.get 5=some (.loop .done .ret nt G ps a b)
 k6:K.get 6=some .jX
theorem Ef (s:bB) (Fo:Fr) (l:List Int) (x:Int){K:Hp}{n:Nat}{pd:Pd}{r:List (Option GO)}{F:Fr}{Q:QA}(f2:Fo.get 2=some (.ptr 1 0)) (f3:Fo.get 3=some (.ptr 3 0)) (S:S85 s Fo l K n)
  (h1:x≠0->x∉l->∀K' n',S85 s Fo (l++[x]) K' n'->fj pG r (pd.f (.bool true) F) K' n' [] Q)
  (h2:(x=0∨x∈l)->∀K' n',X85 Fo K'->fj pG r (pd.f (.bool false) F) K' n' [] Q):Gf 5 [.int .u32 x] pd r pG F K n [] Q:=by
 obtain⟨k0,k1,k2,k3,k4,k5,k6,n7,top⟩:=S;refine Gf.of k5 (by simp[nK];rfl) ?_;rw[afC];simp[aeO,k5];refine⟨_,_,_,_,_,_,⟨rfl,rfl,rfl,rfl,rfl,rfl⟩,?_⟩;rw[afB]
 by_cases hx:x∈l
 ·obtain⟨es,hs1,hs2⟩:=acR x (zI 2) l 0 hx
  by_cases h0:x=0
  ·subst h0;simp[Gl,f2,f3,k1,k2,k3,eW,qh,isKey,sJ,hx,hs1,Gk,Gj];unfold IB;refine⟨_,_,_,_,_,_,_,(by simp;exact⟨rfl,rfl,rfl,rfl,rfl,rfl,rfl⟩),?_⟩;refine h2 (by simp) _ _ ⟨by simp,⟨_,_,_,_,_,by simp;exact⟨rfl,rfl,rfl,rfl,rfl⟩⟩,by simp[k6]⟩
  simp[Gl,f2,f3,k1,k2,k3,eW,qh,isKey,sJ,hx,hs1,hs2,Gk,h0,Gj];unfold IB;refine⟨_,_,_,_,_,_,_,(by simp;exact⟨rfl,rfl,rfl,rfl,rfl,rfl,rfl⟩),?_⟩;refine h2 (by simp[hx]) _ _ ⟨by simp,⟨_,_,_,_,_,by simp;exact⟨rfl,rfl,rfl,rfl,rfl⟩⟩,by simp[k6]⟩
 have hs1:=acS x (zI 1) l 0 hx;have hs2:=T8 x l 0 hx;simp only[qw]at hs2
 by_cases h0:x=0
 ·subst h0;simp[Gl,f2,f3,k1,k2,k3,eW,qh,isKey,sJ,hx,hs1,Gk,Gj];unfold IB;refine⟨_,_,_,_,_,_,_,(by simp;exact⟨rfl,rfl,rfl,rfl,rfl,rfl,rfl⟩),?_⟩;refine h2 (by simp) _ _ ⟨by simp,⟨_,_,_,_,_,by simp;exact⟨rfl,rfl,rfl,rfl,rfl⟩⟩,by simp[k6]⟩
 simp[Gl,f3,k2,k3,eW,qh,isKey,sJ,hx,hs1,hs2,Gk,h0,Gj];unfold IB;refine⟨_,_,_,_,_,_,_,(by simp;exact⟨rfl,rfl,rfl,rfl,rfl,rfl,rfl⟩),?_⟩;refine h1 h0 hx _ _ ⟨?_,?_,?_,?_,?_,?_,?_,n7,?_⟩
 ·simp[k0]
 ·simp[k1]
 ·simp[Ar]
 ·simp[k3]
 ·simp[k4]
 ·simp
 ·simp[k6]
 intro b hb;have e2:¬b=2:=by omega
 have e5:¬b=5:=by omega
 simp[e2,e5,top b hb]
end Go.Abs
namespace Go.Abs
open List
open Go.Proofs
open Classical
set_option maxRecDepth 100000
def tG (l:List Int):Prop:=l.Nodup/\0∉l
def bB.pages (s:bB):List Int:=s.tables.map (·.head)++s.indexes.map (·.root)
theorem tG.add {l:List Int}{x:Int}(h:tG l)(h0:x≠0)(hx:x∉l):tG (l++[x]):=by
 refine⟨nodup_append.2 ⟨h.1,by simp,λ a ha b hb=>?_⟩,?_⟩
 ·simp at hb;subst hb;intro e;subst e;exact hx ha
 simp only[mem_append,gp,not_or];exact⟨h.2,Ne.symm h0⟩
theorem tG.bad {l r:List Int}{x:Int}(h:x=0∨x∈l):¬tG (l++(x::r)):=by
 rintro⟨h1,h2⟩
 rcases h with rfl|h
 ·exact h2 (by simp)
 exact(nodup_append.1 h1).2.2 x h x (by simp) rfl
theorem S85.alloc {s:bB}{Fo:Fr}{l:List Int}{K:Hp}{n:Nat}(S:S85 s Fo l K n)(y z:br):S85 s Fo l ((K.put n (some y)).put n (some z)) (n+1):=by
 obtain⟨k0,k1,k2,k3,k4,k5,k6,n7,top⟩:=S;refine⟨?_,?_,?_,?_,?_,?_,?_,by omega,?_⟩
 ·simp[show ¬ 0=n by omega,k0]
 ·simp[show ¬ 1=n by omega,k1]
 ·simp[show ¬ 2=n by omega,k2]
 ·simp[show ¬ 3=n by omega,k3]
 ·simp[show ¬ 4=n by omega,k4]
 ·simp[show ¬ 5=n by omega,k5]
 ·simp[show ¬ 6=n by omega,k6]
 intro b hb;simp[show ¬b=n by omega,top b (by omega)]
def bB.pg (s:bB)(i j:Nat):List Int:=(s.tables.take i).map (·.head)++(s.indexes.take j).map (·.root)
theorem alf (s:bB):s.pg 0 0=[]:=by simp[bB.pg]
theorem alc {s:bB}{i:Nat}(h:i<s.tables.length):s.pg (i+1) 0=s.pg i 0++[s.tables[i].head]:=by
 unfold bB.pg;rw[take_add_one,cE h];simp only[map_append,Option.toList,map_cons,map_nil,take_zero,append_nil]
theorem ale {s:bB}{i j:Nat}(h:j<s.indexes.length):s.pg i (j+1)=s.pg i j++[s.indexes[j].root]:=by
 unfold bB.pg;rw[take_add_one (l:=s.indexes),cE h];simp only[map_append,Option.toList,map_cons,map_nil,append_assoc]
theorem age (s:bB):s.pg s.tables.length s.indexes.length=s.pages:=by simp[bB.pg,bB.pages]
theorem alb {s:bB}{i:Nat}(h:i<s.tables.length):∃r,s.pages=s.pg i 0++(s.tables[i].head::r):=by
 refine⟨(s.tables.drop (i+1)).map (·.head)++s.indexes.map (·.root),?_⟩;unfold bB.pages bB.pg
 conv=>lhs;rw[<-take_append_drop i s.tables,km h]
 simp only[map_append,map_cons,map_nil,take_zero,append_nil,append_assoc,cons_append]
theorem ald {s:bB}{j:Nat}(h:j<s.indexes.length):∃r,s.pages=s.pg s.tables.length j++(s.indexes[j].root::r):=by
 refine⟨(s.indexes.drop (j+1)).map (·.root),?_⟩;unfold bB.pages bB.pg
 conv=>lhs;rw[<-take_append_drop j s.indexes,km h]
 simp only[map_append,map_cons,append_assoc,take_length]
theorem aaN (s:bB) (hs:s.dz) (Fo:Fr) (K:Hp) (n:Nat) (f2:Fo.get 2=some (.ptr 1 0)) (f3:Fo.get 3=some (.ptr 3 0)) (S:S85 s Fo [] K n):
  aj pG 160 [.jv 5,.ptr 4 0] K n (λ _ K' n'=>(tG s.pages/\S85 s Fo s.pages K' n')∨(¬tG s.pages/\X85 Fo K')):=by
 have ht:=hs.t;have hi:=hs.i;unfold aM at ht hi;refine aj.of c160 (by simp[A160]) λ F hF=>?_;have k4:=S.k4;rw[dI]at k4;simp[A160,hF,k4,aL.aD];refine aE.of (λ t F K n ms=>∃i,t=s.tables.length - i/\i<=s.tables.length/\F.get 0=some (.jv 5)/\F.get 1=some (.ptr 4 0)/\F.get 8=some (aA.ds s.tables)/\F.get 9=some (zI (s.tables.length:Int))/\F.get 10=some (zI (i:Int))/\S85 s Fo (s.pg i 0) K n/\tG (s.pg i 0)/\ms=[]) s.tables.length ⟨0,by simp,by simp,by simp[hF],by simp[hF],by simp,by simp,by simp,by rw[alf];exact S,by simp[alf,tG],rfl⟩ ?_;clear S k4 hF F K n;rintro t F K n ms ⟨i,rfl,hil,f0,f1,f8,f9,f10,S,hP,rfl⟩
 by_cases hlt:i<s.tables.length
 ·have hx:=aA.ix (ik:=.i64) hlt;have hld:=λ H=>aA.mf s.tables[i] (aA.l (s.tables.drop (i+1))) H;have S1:=S.alloc (.cells 4 [] [.int .u32 0,.str [],.al (.slice none 0 0),.int .u32 0] .nil) (.cells 4 [] (aA.cells s.tables[i]) .nil);obtain⟨rr,hrr⟩:=alb hlt;simp[JY,f8,f9,f10,hlt,hx,hld,aL.av];generalize hK1:Tr.put (Tr.put K n _) n _=K1 at S1 ⊢;have kn:K1.get n=aG 4 (aA.cells s.tables[i]):=by rw[<-hK1];simp
  rw[dB]at kn;clear hK1;simp[YP,f0,kn];refine Ef s Fo (s.pg i 0) s.tables[i].head f2 f3 S1 (λ h0 hx K' n' S'=>?_) (λ hb K' n' X=>?_)
  ·simp[YO,f0,f1,f8,f9,f10,aC i (by omega)];refine⟨_,by omega,i+1,rfl,hlt,rfl,?_,?_⟩
   ·rw[alc hlt];exact S'
   rw[alc hlt];exact hP.add h0 hx
  simp;exact .inr ⟨by rw[hrr];exact tG.bad hb,X⟩
 obtain rfl:i=s.tables.length:=by omega
 have k4:=S.k4;rw[dI]at k4;simp[JY,f9,f10,YN,f1,k4,aL.aD];refine aE.of (λ t F K n ms=>∃i,t=s.indexes.length - i/\i<=s.indexes.length/\F.get 0=some (.jv 5)/\F.get 1=some (.ptr 4 0)/\F.get 21=some (aQ.ds s.indexes)/\F.get 22=some (zI (s.indexes.length:Int))/\F.get 23=some (zI (i:Int))/\S85 s Fo (s.pg s.tables.length i) K n/\tG (s.pg s.tables.length i)/\ms=[]) s.indexes.length ⟨0,by simp,by simp,by simp[f0],by simp[f1],by simp,by simp,by simp,S,hP,rfl⟩ ?_;clear S hP hil k4 f0 f1 f8 f9 f10 F K n;rintro t F K n ms ⟨i,rfl,hil,f0,f1,f8,f9,f10,S,hP,rfl⟩
 by_cases hlt:i<s.indexes.length
 ·have hx:=aQ.ix (ik:=.i64) hlt;have hld:=λ H=>aQ.mf s.indexes[i] (aQ.l (s.indexes.drop (i+1))) H;have S1:=S.alloc (.cells 6 [] [.int .u32 0,.int .u32 0,.str [],.al (.slice none 0 0),.bool false,.int .u32 0] .nil) (.cells 6 [] (aQ.cells s.indexes[i]) .nil);obtain⟨rr,hrr⟩:=ald hlt;simp[JX,f8,f9,f10,hlt,hx,hld,aL.av];generalize hK1:Tr.put (Tr.put K n _) n _=K1 at S1 ⊢;have kn:K1.get n=aG 6 (aQ.cells s.indexes[i]):=by rw[<-hK1];simp
  rw[eC]at kn;clear hK1;simp[YM,f0,kn];refine Ef s Fo (s.pg s.tables.length i) s.indexes[i].root f2 f3 S1 (λ h0 hx K' n' S'=>?_) (λ hb K' n' X=>?_)
  ·simp[YL,f0,f1,f8,f9,f10,aC i (by omega)];refine⟨_,by omega,i+1,rfl,hlt,rfl,?_,?_⟩
   ·rw[ale hlt];exact S'
   rw[ale hlt];exact hP.add h0 hx
  simp;exact .inr ⟨by rw[hrr];exact tG.bad hb,X⟩
 obtain rfl:i=s.indexes.length:=by omega
 rw[age]at S hP;simp[JX,f9,f10];exact .inl ⟨hP,S⟩
theorem aaO (s:bB)(H:Hp)(n:Nat):aj pG 80 [fe.av s] H n (λ v K k=>v=.fn (.func 160) [] [.ptr n 0]/\K=H.put n (aG 2 (fe.cells s))/\k=n+1):=by
 refine aj.of c80 (by simp[A80]) λ F hF=>?_;simp[A80,hF,aL.av]
structure Iz (s:bB)(K:Hp)(n:Nat):Prop where
 k0:K.get 0=aG 2 (fe.cells s)
 k1:K.get 1=aG 1 [.bool false]
 k6:K.get 6=some .jX
 n7:7<=n
 top:cA K n
theorem Iz.alloc {s:bB}{K:Hp}{n:Nat}(S:Iz s K n)(y z:br):Iz s ((K.put n (some y)).put n (some z)) (n+1):=by
 obtain⟨k0,k1,k6,n7,top⟩:=S;refine⟨?_,?_,?_,by omega,?_⟩
 ·simp[show ¬ 0=n by omega,k0]
 ·simp[show ¬ 1=n by omega,k1]
 ·simp[show ¬ 6=n by omega,k6]
 intro b hb;simp[show ¬b=n by omega,top b (by omega)]
theorem Iz.re {s:bB}{K:Hp}{n:Nat}(S:Iz s K n):Iz s (K.put 1 (aG 1 [.bool false])) n:=by
 obtain⟨k0,k1,k6,n7,top⟩:=S;refine⟨by simp[k0],by simp,by simp[k6],n7,λ b hb=>?_⟩;simp[show ¬b=1 by omega,top b hb]
def wx (l:List bo)(i:Nat):Int:=match (l.take i).getLast? with
 |some t=>t.id
 |none=>0
theorem AA (l:List bo):wx l 0=0:=by simp[wx]
theorem Az {l:List bo}{i:Nat}(h:i<l.length):wx l (i+1)=l[i].id:=by
 unfold wx;rw[take_add_one,cE h];simp only[Option.toList,getLast?_concat]
structure Vd (l:List bo)(i:Nat)(h:i<l.length):Prop where
 id:wx l i<l[i].id
 name:fk l[i].name
 cols:jQ l[i].cols
 new:∀t∈l.take i,t.name≠l[i].name
def xE (l:List bo):Prop:=∀i h,Vd l i h
theorem agS (s:bB)(hs:s.dz)(F:Fr)(K:Hp)(n:Nat)(Q:QA)(S:Iz s K n)(f1:F.get 1=some (.ptr 0 0))(f2:F.get 2=some (.ptr 1 0))(f5:F.get 5=some (.int .u32 0))(f39:F.get 39=some (aA.ds s.tables))(f40:F.get 40=some (zI (s.tables.length:Int)))(f41:F.get 41=some (zI 0))
  (hok:xE s.tables->∀F' K' n',Iz s K' n'->F'.get 1=some (.ptr 0 0)->F'.get 2=some (.ptr 1 0)->Q .normal F' K' n' [.dT 6])
  (hbad:¬xE s.tables->∀F' K' n',Iz s K' n'->F'.get 2=some (.ptr 1 0)->Q .ret F' K' n' [.dT 6]):aE Ou pG F K n [.dT 6] (fy 2 Q):=by
 have ht:=hs.t;unfold aM at ht;refine aE.of (λ t F K n ms=>∃i,t=s.tables.length - i/\i<=s.tables.length/\F.get 1=some (.ptr 0 0)/\F.get 2=some (.ptr 1 0)/\F.get 5=some (.int .u32 (wx s.tables i))/\F.get 39=some (aA.ds s.tables)/\F.get 40=some (zI (s.tables.length:Int))/\F.get 41=some (zI (i:Int))/\Iz s K n/\(∀k,(h:k<s.tables.length)->k<i->Vd s.tables k h)/\ms=[.dT 6]) s.tables.length ⟨0,by simp,by simp,f1,f2,by simp[AA,f5],f39,f40,by simp[f41],S,λ k _ h=>by omega,rfl⟩ ?_;clear S f1 f2 f5 f39 f40 f41 F K n;rintro t F K n ms ⟨i,rfl,hil,f1,f2,f5,f39,f40,f41,S,hP,rfl⟩
 by_cases hlt:i<s.tables.length
 ·have hx := aA.ix (ik:=.i64) hlt;have hld:=λ H=>aA.mf s.tables[i] (aA.l (s.tables.drop (i+1))) H;have S1:=S.alloc (.cells 4 [] [.int .u32 0,.str [],.al (.slice none 0 0),.int .u32 0] .nil) (.cells 4 [] (aA.cells s.tables[i]) .nil);have hsl:=aA.OT (l:=s.tables) (i:=i) hil;simp[Ou,f39,f40,f41,hlt,hx,hld,aL.av];generalize hK1:Tr.put (Tr.put K n _) n _=K1 at S1 ⊢;have kn:K1.get n=aG 4 (aA.cells s.tables[i]):=by rw[<-hK1];simp
  clear hK1;have Dx:=kn;rw[dB]at Dx;have k0:=S1.k0;rw[dI]at k0;have no:¬Vd s.tables i hlt->¬xE s.tables:=λ h h2=>h (h2 i hlt);have k1:=S1.k1;have hne:∀b,b<n->¬b=n:=λ b h=>by omega
  by_cases h1:s.tables[i].id<=wx s.tables i
  ·simp[I8,Dx,f5,h1,xK,f2,k1];refine hbad (no λ h=>ai h.id (by omega)) _ _ _ S1.re ?_;simp[f2]
  simp[I8,Dx,f5,h1];refine aw.pure (name44 s.tables[i].name) ?_
  by_cases h2:fk s.tables[i].name
  ·simp[h2,Dx];refine aw.pure (ac4 s.tables[i].cols) ?_
   by_cases h3:jQ s.tables[i].cols
   ·simp[h3,f1,k0,Bd,uN,hsl];refine aw.same (ah3 (p:=λ d=>decide (d.name=s.tables[i].name)) (first:=[]) (cap:=[.ptr n 0]) (s.tables.take i) (by simp;unfold aM;omega) λ d _=>akI d s.tables[i] n K1 (n+1) kn S1.top) ?_
    by_cases h4:∃t∈s.tables.take i,t.name=s.tables[i].name
    ·have h4':((s.tables.take i).any λ d=>decide (d.name=s.tables[i].name))=true:=by simpa using h4
     simp[h4',xK,f2,k1];refine hbad (no λ h=>?_) _ _ _ S1.re ?_
     ·obtain⟨t,ht1,ht2⟩:=h4;exact h.new t ht1 ht2
     simp[f2]
    have h4':((s.tables.take i).any λ d=>decide (d.name=s.tables[i].name))=false:=by
     rw[Bool.eq_false_iff];intro h;exact h4 (by simpa using h)
    simp[h4',Xw,Xv,Dx,f1,f2,f39,f40,f41,aC i (by omega)];refine⟨_,by omega,i+1,rfl,hlt,by simp[Az hlt],rfl,S1,λ k h hk=>?_⟩
    by_cases e:k=i
    ·subst e;exact⟨by omega,h2,h3,λ t ht1 ht2=>h4 ⟨t,ht1,ht2⟩⟩
    exact hP k h (by omega)
   simp[h3,xK,f2,k1];refine hbad (no λ h=>h3 h.cols) _ _ _ S1.re ?_;simp[f2]
  simp[h2,xK,f2,k1];refine hbad (no λ h=>h2 h.name) _ _ _ S1.re ?_;simp[f2]
 obtain rfl:i=s.tables.length:=by omega
 simp[Ou,f40,f41];refine hok (λ k h=>hP k h h) _ _ _ S ?_ ?_
 ·simp[f1]
 simp[f2]
def wy (l:List mb)(i:Nat):Int:=match (l.take i).getLast? with
 |some t=>t.id
 |none=>0
theorem abt (l:List mb):wy l 0=0:=by simp[wy]
theorem abr {l:List mb}{i:Nat}(h:i<l.length):wy l (i+1)=l[i].id:=by
 unfold wy;rw[take_add_one,cE h];simp only[Option.toList,getLast?_concat]
structure ai3 (s:bB)(i:Nat)(h:i<s.indexes.length):Prop where
 id:wy s.indexes i<s.indexes[i].id
 name:fk s.indexes[i].name
 table:(s.table s.indexes[i].table).2=true
 cols:fL (s.table s.indexes[i].table).1 s.indexes[i].cols
 new:∀t∈s.indexes.take i,t.name≠s.indexes[i].name
def OC (s:bB):Prop:=∀i h,ai3 s i h
theorem agR (s:bB)(hs:s.dz)(F:Fr)(K:Hp)(n:Nat)(Q:QA)(S:Iz s K n)(f1:F.get 1=some (.ptr 0 0))(f2:F.get 2=some (.ptr 1 0))(f5:F.get 5=some (.int .u32 0))(f39:F.get 74=some (aQ.ds s.indexes))(f40:F.get 75=some (zI (s.indexes.length:Int)))(f41:F.get 76=some (zI 0))
  (hok:OC s->∀F' K' n',Iz s K' n'->F'.get 1=some (.ptr 0 0)->F'.get 2=some (.ptr 1 0)->Q .normal F' K' n' [.dT 6])
  (hbad:¬OC s->∀F' K' n',Iz s K' n'->F'.get 2=some (.ptr 1 0)->Q .ret F' K' n' [.dT 6]):aE Ot pG F K n [.dT 6] (fy 4 Q):=by
 have ht:=hs.i;unfold aM at ht;refine aE.of (λ t F K n ms=>∃i,t=s.indexes.length - i/\i<=s.indexes.length/\F.get 1=some (.ptr 0 0)/\F.get 2=some (.ptr 1 0)/\F.get 5=some (.int .u32 (wy s.indexes i))/\F.get 74=some (aQ.ds s.indexes)/\F.get 75=some (zI (s.indexes.length:Int))/\F.get 76=some (zI (i:Int))/\Iz s K n/\(∀k,(h:k<s.indexes.length)->k<i->ai3 s k h)/\ms=[.dT 6]) s.indexes.length ⟨0,by simp,by simp,f1,f2,by simp[abt,f5],f39,f40,by simp[f41],S,λ k _ h=>by omega,rfl⟩ ?_;clear S f1 f2 f5 f39 f40 f41 F K n;rintro t F K n ms ⟨i,rfl,hil,f1,f2,f5,f39,f40,f41,S,hP,rfl⟩
 by_cases hlt:i<s.indexes.length
 ·have hx := aQ.ix (ik:=.i64) hlt;have hld:=λ H=>aQ.mf s.indexes[i] (aQ.l (s.indexes.drop (i+1))) H;have S1:=S.alloc (.cells 6 [] [.int .u32 0,.int .u32 0,.str [],.al (.slice none 0 0),.bool false,.int .u32 0] .nil) (.cells 6 [] (aQ.cells s.indexes[i]) .nil);have hsl:=aQ.OT (l:=s.indexes) (i:=i) hil;simp[Ot,f39,f40,f41,hlt,hx,hld,aL.av];generalize hK1:Tr.put (Tr.put K n _) n _=K1 at S1 ⊢;have kn:K1.get n=aG 6 (aQ.cells s.indexes[i]):=by rw[<-hK1];simp
  clear hK1;have Dx:=kn;rw[eC]at Dx;have k0:=S1.k0;rw[dI]at k0;have no:¬ai3 s i hlt->¬OC s:=λ h h2=>h (h2 i hlt);have h23:=aai s hs s.indexes[i].table;have hav:fe.av s=.agg [aA.ds s.tables,aQ.ds s.indexes] 2:=rfl;rw[hav]at h23;simp[Xs,f1,k0,Dx];refine aw.pure h23 ?_;have hcl:(s.table s.indexes[i].table).1.cols.length<=aM:=gU (Q:=λ t:bo=>t.cols.length<=aM) (by simp[bo.zero,aM]) hs.tc;have h48:=λ c=>Sm (s.table s.indexes[i].table).1 c hcl;generalize hT:s.table s.indexes[i].table=T at h48 hcl ⊢;obtain⟨t,ok⟩:=T;have S2:=S1.alloc (.cells 4 [] [.int .u32 0,.str [],.al (.slice none 0 0),.int .u32 0] .nil) (.cells 4 [] (aA.cells t) .nil);simp[aL.av];generalize hK2:Tr.put (Tr.put K1 (n+1) _) (n+1) _=K2 at S2 ⊢;have kn2:K2.get n=aG 6 (aQ.cells s.indexes[i]):=by rw[<-hK2];simp[kn]
  have kt:K2.get (n+1)=aG 4 (aA.cells t):=by rw[<-hK2];simp
  clear hK2 kn Dx k0 S1;have Dx:=kn2;rw[eC]at Dx;have k0:=S2.k0;rw[dI]at k0;have k1:=S2.k1;have h48':=h48 s.indexes[i].cols;simp only[aL.av]at h48'
  by_cases h1:s.indexes[i].id<=wy s.indexes i
  ·simp[I7,Dx,f5,h1,tA,f2,k1];refine hbad (no λ h=>ai h.id (by omega)) _ _ _ S2.re ?_;simp[f2]
  simp[I7,Dx,f5,h1];refine aw.pure (name44 s.indexes[i].name) ?_
  by_cases h2:fk s.indexes[i].name
  ·cases ok with
   |false =>
    simp[h2,tA,f2,k1];refine hbad (no λ h=>?_) _ _ _ S2.re ?_
    ·have:=h.table;rw[hT]at this;simp at this
    simp[f2]
   |true =>
   simp[h2,Dx,kt];refine aw.pure h48' ?_
   by_cases h3:fL t s.indexes[i].cols
   ·simp[h3,f1,k0,Bd,uN,hsl];refine aw.same (ah4 (p:=λ d=>decide (d.name=s.indexes[i].name)) (first:=[]) (cap:=[.ptr n 0]) (s.indexes.take i) (by simp;unfold aM;omega) λ d _=>al3 d s.indexes[i] n K2 (n+1+1) kn2 S2.top) ?_
    by_cases h4:∃t∈s.indexes.take i,t.name=s.indexes[i].name
    ·have h4':((s.indexes.take i).any λ d=>decide (d.name=s.indexes[i].name))=true:=by simpa using h4
     simp[h4',tA,f2,k1];refine hbad (no λ h=>?_) _ _ _ S2.re ?_
     ·obtain⟨t,ht1,ht2⟩:=h4;exact h.new t ht1 ht2
     simp[f2]
    have h4':((s.indexes.take i).any λ d=>decide (d.name=s.indexes[i].name))=false:=by
     rw[Bool.eq_false_iff];intro h;exact h4 (by simpa using h)
    simp[h4',Xr,Xq,Dx,f1,f2,f39,f40,f41,aC i (by omega)];refine⟨_,by omega,i+1,rfl,hlt,by simp[abr hlt],rfl,S2,λ k h hk=>?_⟩
    by_cases e:k=i
    ·subst e;exact⟨by omega,h2,by rw[hT],by rw[hT];exact h3,λ t ht1 ht2=>h4 ⟨t,ht1,ht2⟩⟩
    exact hP k h (by omega)
   simp[h3,tA,f2,k1];refine hbad (no λ h=>h3 ?_) _ _ _ S2.re ?_
   ·have:=h.cols;rwa [hT]at this
   simp[f2]
  simp[h2,tA,f2,k1];refine hbad (no λ h=>h2 h.name) _ _ _ S2.re ?_;simp[f2]
 obtain rfl:i=s.indexes.length:=by omega
 simp[Ot,f40,f41];refine hok (λ k h=>hP k h h) _ _ _ S ?_ ?_
 ·simp[f1]
 simp[f2]
@[simp] theorem aph (b:Nat):(AV.map b).len=1:=rfl
@[simp] theorem ajs (b:Nat):(AV.map b).cells=[.map b]:=rfl
@[simp] theorem apg (b:Nat):(AV.map b).one=true:=rfl
structure eM (s:bB):Prop where
 t:s.tables.length<=32
 i:s.indexes.length<=64
 pages:tG s.pages
 tabs:xE s.tables
 ixs:OC s
theorem ac6 (s:bB) (hs:s.dz):ae pG 37 [fe.av s] (.bool (decide (eM s))):=by
 refine pv c37 λ F hF=>?_
 by_cases h1:32<s.tables.length
 ·have:¬eM s:=λ h=>ai h.t (by omega);simp[A37,hF,aL.av,dI,aL.aD,show (32:Int)<(s.tables.length:Int) by omega];exact .bool (by simp[this])
 have h1':¬(32:Int)<(s.tables.length:Int):=by omega
 by_cases h2:64<s.indexes.length
 ·have:¬eM s:=λ h=>ai h.i (by omega);simp[A37,hF,aL.av,dI,aL.aD,h1',show (64:Int)<(s.indexes.length:Int) by omega];exact .bool (by simp[this])
 have h2':¬(64:Int)<(s.indexes.length:Int):=by omega
 simp[A37,hF,aL.av,dI,aL.aD,h1',h2',kD];refine aw.of (aaO s _ _) ?_;rintro v K n ⟨rfl,rfl,rfl⟩;simp;refine IA.of ?_;generalize hF1:(Fp 24 _ _:Fr)=F1;have f1:F1.get 1=some (.ptr 0 0):=by rw[<-hF1];simp
 have f2:F1.get 2=some (.ptr 1 0):=by rw[<-hF1];simp
 have f3:F1.get 3=some (.ptr 3 0):=by rw[<-hF1];simp
 clear hF1 hF F;refine aj.mono (aaN s hs F1 _ _ f2 f3 ?_) ?_
 ·refine⟨by simp[dI],by simp,by simp[KV],by simp,by simp,by simp,by simp,by omega,λ b hb=>?_⟩;simp[show ¬b=0 by omega,show ¬b=1 by omega,show ¬b=2 by omega,show ¬b=3 by omega,show ¬b=4 by omega,show ¬b=5 by omega,show ¬b=6 by omega]
 rintro v K n (⟨hp,S⟩|⟨hp,X⟩)
 ·refine⟨_,_,_,_,_,_,_,S.k5,by simp,by simp,?_⟩
  have S1:Iz s (K.put 5 none) n:=⟨by simp[S.k0],by simp[S.k1],by simp[S.k6],S.n7,λ b hb=>by
   have:=S.n7;simp[show ¬b=5 by omega,S.top b hb]⟩
  clear S;generalize Tr.put K 5 none=K1 at S1 ⊢;have k0:=S1.k0;rw[dI]at k0;simp[aeN,Xx,f1,k0,aL.aD];refine agS s hs _ _ _ _ S1 (by simp[f1]) (by simp[f2]) (by simp) (by simp) (by simp) (by simp) (λ ht F' K' n' S' g1 g2=>?_) (λ ht F' K' n' S' g2=>?_)
  ·have k0:=S'.k0;rw[dI]at k0;simp[Xu,Xt,g1,k0,aL.aD];refine agR s hs _ _ _ _ S' (by simp[g1]) (by simp[g2]) (by simp) (by simp) (by simp) (by simp) (λ hi F3 K3 n3 S3 w1 w2=>?_) (λ hi F3 K3 n3 S3 w2=>?_)
   ·have:eM s:=⟨by omega,by omega,hp,ht,hi⟩;have k1:=S3.k1;have k6:=S3.k6;simp[Xp,w2,k1,k6];exact .bool (by simp[this])
   have:¬eM s:=λ h=>hi h.ixs;have k1:=S3.k1;have k6:=S3.k6;simp[w2,k1,k6];exact .bool (by simp[this])
  have:¬eM s:=λ h=>ht h.tabs;have k1:=S'.k1;have k6:=S'.k6;simp[g2,k1,k6];exact .bool (by simp[this])
 obtain⟨k1,⟨nt,G,ps,a,b,k5⟩,k6⟩:=X;have:¬eM s:=λ h=>hp h.pages;refine⟨_,_,_,_,_,_,_,k5,by simp,by simp,?_⟩;simp[f2,k1,k6];exact .bool (by simp[this])
def M5:CT:=.seq (.seq BW (.cond (ar 107) (.seq Jq .ret) .skip)) (.seq Jp .ret)
structure aiO (s:bB)(b:mZ)(err:Int)(K:Hp):Prop where
 k2:K.get 2=aG 25 (lj 0)
 k3:K.get 3=some (eg s err)
 k4:∃l,K.get 4=aG 25 l/\l.length=25/\aY l=true/\∀h,nw h l b.cells
theorem nw.PZ {h:Hf}:∀ {l l':List AV},nw h l l'->aJ l'->bh h l l'
 |[],[],_,_=>.nil
 |[],_::_,k,_=>by simp[nw]at k
 |_::_,[],k,_=>by simp[nw]at k
 |v::l,v'::l',k,hp=>by
  simp only[uS]at k;simp at hp;refine .cons _ _ _ _ ?_ (nw.PZ k.2 hp.2)
  rcases k.1 with rfl|h1
  ·exact .pure _ hp.1
  exact h1
theorem wc (k:Int)(h:Hf):nw h (lj k) (mZ.cells {kind:=k}):=by
 simp[lj,mZ.cells,bo.zero,mb.zero]
@[simp] theorem Sv (k:Int):(lj k).length=25:=rfl
theorem Su (k:Int):aY (lj k)=true:=by simp[lj]
def ab':mZ:={kind:=0}
def AY (r:mZ×Int):mZ×Int:=if r.2=0 then r else (ab',r.2)
theorem Qj (s:bB)(b:mZ)(err:Int)(F:Fr)(K:Hp)(n:Nat)(f4:F.get 4=some (.ptr 2 0))(f6:F.get 6=some (.ptr 3 0))(f7:F.get 7=some (.ptr 4 0))(O:aiO s b err K):
  VC pG M5 F K n [] (iO [bU 4 25,aI 5] λ v1 H' _=>eY H'.get v1 (.aX [.agg (AY (b,err)).1.cells 25,zI (AY (b,err)).2])):=by
 obtain⟨k2,k3,l,k4,hl,ha,hz⟩:=O;simp only[eg,uD]at k3;have hzo:lj 0=[(zI 0),(.str []),(.int .u32 0),(.str []),(.al (.slice none 0 0)),(.int .u32 0),(.int .u32 0),(.int .u32 0),(.str []),(.al (.slice none 0 0)),(.bool false),(.int .u32 0),(.al (.slice none 0 0)),(.al (.slice none 0 0)),(.al (.slice none 0 0)),(.al (.slice none 0 0)),(.al (.slice none 0 0)),(.al (.slice none 0 0)),(.al (.slice none 0 0)),(.al (.slice none 0 0)),(.al (.slice none 0 0)),(.al (.slice none 0 0)),(.bool false),(.bool false),(zI 0)]:=rfl;have zl:=Sv 0;have zo:=Su 0;have zf:=wc 0
 by_cases h0:err=0
 ·subst h0;generalize lj 0=z at *;have hp:patch z 0 l=some l:=yV (by omega);simp[M5,BW,Jp,f4,f6,f7,k2,k3,k4,ha,hp,AY];exact .aX _ _ (.cons _ _ _ _ (.agg _ _ _ ((hz _).PZ (by simp))) (.cons _ _ _ _ fp .nil))
 simp[M5,BW,Jq,f6,k3,h0,AY];rw[<-hzo];generalize lj 0=z at *;have hp:patch z 0 z=some z:=yV rfl;refine cj.of (cN (P:=pG)) ?_;simp[ab,f4,f6,k2,k3,zo,hp];exact .aX _ _ (.cons _ _ _ _ (.agg _ _ _ ((zf _).PZ (by simp))) (.cons _ _ _ _ fp .nil))
def C5:CT:=(.seq Gn (.cond (ar 27) ae3 (.seq Gm (.cond (ar 32) ae2 (.seq xT (.cond (ar 39) Yc (.seq xR (.cond (ar 44) (.seq Yb (.seq Ya (.seq X9 X8))) (.seq xQ (.cond (ar 67) Jx (.seq BX (.cond (ar 72) (.seq Jw (.seq Jv (.cond (ar 83) Ju .skip))) (.seq Jt (.cond (ar 92) X7 (.seq Js (.cond (ar 97) Jr .skip))))))))))))))))
theorem b5:A23.code=(.seq Gq (.seq (.seq Gp (.cond (ar 17) (.seq MP .ret) .skip)) (.seq X6 (.seq X5 (.seq (.seq X4 (.block 0 C5)) M5))))):=rfl
def QV (s:bB)(x:bN)(err:Int):mZ×Int:=({kind:=x.kind,table:=(s.table (s.index x.name).1.table).1,index:=(s.index x.name).1},keep err 202 (!(s.index x.name).2))
def rI (s:bB)(x:bN)(err:Int):mZ×Int:=
 if keep err 200 (!(s.named x.table).2)≠0 then ({kind:=x.kind,table:=(s.named x.table).1},keep err 200 (!(s.named x.table).2))
 else ({kind:=x.kind,table:=(s.named x.table).1,cond:=(fG [(s.named x.table).1.name] [(s.named x.table).1] x.cond 0).1},(fG [(s.named x.table).1.name] [(s.named x.table).1] x.cond 0).2)
def oq (s:bB)(x:bN):mZ×Int:=
 if x.kind=1 then ab5 s x 0
 else if x.kind=2 then ({kind:=x.kind,table:=(s.named x.table).1},keep 0 200 (!(s.named x.table).2))
 else if x.kind=3 then indexB s x 0
 else if x.kind=4 then QV s x 0
 else if x.kind=5 then jl s x 0
 else if x.kind=6 then rI s x 0
 else if x.kind=7 then aad s x 0
 else if x.kind=8 then jJ s x.q x.kind 0
 else ({kind:=x.kind},0)
def cy (s:bB)(x:bN):mZ×Int:=if eM s/\x.may=true then AY (oq s x)else (ab',1)
structure E5 (s:bB)(x:bN)(F:Fr)(K:Hp):Prop where
 f2:F.get 2=some (.ptr 0 0)
 f3:F.get 3=some (.ptr 1 0)
 f4:F.get 4=some (.ptr 2 0)
 f6:F.get 6=some (.ptr 3 0)
 f7:F.get 7=some (.ptr 4 0)
 f26:F.get 26=some (zI x.kind)
 k0:K.get 0=aG 2 (fe.cells s)
 k1:K.get 1=aG 31 x.cells
 k2:K.get 2=aG 25 (lj 0)
 k3:K.get 3=some (eg s 0)
 k4:K.get 4=aG 25 (lj x.kind)
 top:cA K 5
def ZU (s:bB)(x:bN)(Q:QA):Prop:=∀F' K' n',F'.get 4=some (.ptr 2 0)->F'.get 6=some (.ptr 3 0)->F'.get 7=some (.ptr 4 0)->aiO s (oq s x).1 (oq s x).2 K'->Q .normal F' K' n' []
theorem mZ.one (b:mZ):aY b.cells=true:=by simp[mZ.cells,aL.ds]
theorem Eg {s:bB}{b:mZ}{e:Int}{K:Hp}(k2:K.get 2=aG 25 (lj 0)):aiO s b e ((K.put 3 (some (eg s e))).put 4 (aG 25 b.cells)):=
 ⟨by simp[k2],by simp,_,by simp,rfl,b.one,λ h=>nw.refl h _⟩
theorem acg (s:bB)(hs:s.dz)(x:bN)(hx:x.sm)(hr:∀r∈x.rows,r.length<=aM/\∀e∈r,e.sz<=aM/\e.may=true)(hk:x.kind=5)(F:Fr)(K:Hp)(Q:QA)(E:E5 s x F K)(hQ:ZU s x Q):VC pG C5 F K 5 [] Q:=by
 obtain⟨f2,f3,f4,f6,f7,f26,k0,k1,k2,k3,k4,top⟩:=E;have hc:=Tv s hs x hx.rows hr 3 4 0 K 5 (by omega) (by omega) (by omega) k3 k4;have hb:oq s x=jl s x 0:=by simp[oq,hk]
 have xl:=x.bf;rw[<-hb]at hc;have hav:x.av=.agg x.cells 31:=Eq.trans rfl rfl;rw[hav]at hc;rw[hk]at f26;generalize x.cells=xs at *;simp[C5,Gn,Gm,xT,xR,xQ,Jx,f26,f3,f6,f7,k1];refine aw.ok hc ?_;simp;exact hQ _ _ _ (by simp[f4]) (by simp[f6]) (by simp[f7]) (Eg k2)
theorem ace (s:bB)(hs:s.dz)(x:bN)(hq:x.q.dz s)(hC:C25 x.q.cond)(hS:∀y∈x.q.ay,C25 y.cond)(hI:I76 x.q)(hO:O28 x.q)(hk:x.kind=8)(F:Fr)(K:Hp)(Q:QA)(E:E5 s x F K)(hQ:ZU s x Q):VC pG C5 F K 5 [] Q:=by
 obtain⟨f2,f3,f4,f6,f7,f26,k0,k1,k2,k3,k4,top⟩:=E;have hc:=aaD s hs x.q hq hC hS hI hO x.kind 3 4 0 K 5 (by omega) (by omega) (by omega) k3 k4;have hb:oq s x=jJ s x.q x.kind 0:=by simp[oq,hk]
 have xl:=x.bf;have xq:=x.tq;rw[<-hb]at hc;have hav:x.q.av=.agg x.q.cells 15:=Eq.trans rfl rfl;rw[hav]at hc;rw[hk]at f26;generalize x.cells=xs at *;generalize x.q.cells=qs at *;have hg:fX 31 [] xs .nil 16 15=some qs:=by simp[xl,xq]
 simp[C5,Gn,Gm,xT,xR,xQ,BX,Jt,Js,Jr,f26,f3,f6,f7,k1,hg];refine aw.ok hc ?_;simp;exact hQ _ _ _ (by simp[f4]) (by simp[f6]) (by simp[f7]) (Eg k2)
theorem we (k:Int):lj k=[zI k,.str [],.int .u32 0,.str [],.al (.slice none 0 0),.int .u32 0,.int .u32 0,.int .u32 0,.str [],.al (.slice none 0 0),.bool false,.int .u32 0,
 .al (.slice none 0 0),.al (.slice none 0 0),.al (.slice none 0 0),.al (.slice none 0 0),.al (.slice none 0 0),.al (.slice none 0 0),.al (.slice none 0 0),.al (.slice none 0 0),.al (.slice none 0 0),.al (.slice none 0 0),.bool false,.bool false,zI 0]:=rfl
theorem acf (s:bB)(hs:s.dz)(x:bN)(hC:C25 x.cond)(hk:x.kind=6)(F:Fr)(K:Hp)(Q:QA)(E:E5 s x F K)(hQ:ZU s x Q):VC pG C5 F K 5 [] Q:=by
 obtain⟨f2,f3,f4,f6,f7,f26,k0,k1,k2,k3,k4,top⟩:=E;have hc:=zV s hs x.table 3 0 K 5 (by omega) k3;have hb:oq s x=rI s x 0:=by simp[oq,hk]
 unfold rI at hb;have hcl:(s.named x.table).1.cols.length<=aM:=gU (Q:=λ t:bo=>t.cols.length<=aM) (by simp[bo.zero,aM]) hs.tc;have x1:=x.g1;have xl:=x.bf;have xc:=x.cc;rw[hk]at f26;rw[we]at k4;generalize hxs:x.cells=xs at *;have hg:fX 31 [] xs .nil 8 8=some x.cond.cells:=by simp[xl,xc]
 clear xl xc;simp[C5,Gn,Gm,xT,xR,xQ,BX,Jw,f26,f3,f6,k1,x1];refine aw.ok hc ?_;generalize s.named x.table=T at *;obtain⟨t,ok⟩:=T;simp[k4,f6,f7,aL.av,dB,Jv];generalize hK1:Tr.put _ 4 _=K1;have g1:∀b,b≠3->b≠4->K1.get b=K.get b:=λ b h1 h2=>by rw[<-hK1];simp[h1,h2]
 have g3:K1.get 3=some (eg s (keep 0 200 !ok)):=by rw[<-hK1];simp
 have g4:∃l,K1.get 4=aG 25 l/\l=[zI 6,.str [],.int .u32 t.id,.str t.name,bL.ds t.cols,.int .u32 t.head,.int .u32 0,.int .u32 0,.str [],.al (.slice none 0 0),.bool false,.int .u32 0,.al (.slice none 0 0),.al (.slice none 0 0),.al (.slice none 0 0),.al (.slice none 0 0),.al (.slice none 0 0),.al (.slice none 0 0),.al (.slice none 0 0),.al (.slice none 0 0),.al (.slice none 0 0),.al (.slice none 0 0),.bool false,.bool false,zI 0]:=by
  rw[<-hK1,<-hk];exact⟨_,(Tr.get_put _ _ _ _).trans (ao rfl),rfl⟩
 clear hK1;obtain⟨l,g4,hl⟩:=g4;have w2:=(g1 2 (by omega) (by omega)).trans k2;have w1:=(g1 1 (by omega) (by omega)).trans k1;generalize hF2:(Fp 81 _ _:Fr)=F2;have v3:F2.get 3=some (.ptr 1 0):=by rw[<-hF2];simp[f3]
 have v4:F2.get 4=some (.ptr 2 0):=by rw[<-hF2];simp[f4]
 have v6:F2.get 6=some (.ptr 3 0):=by rw[<-hF2];simp[f6]
 have v7:F2.get 7=some (.ptr 4 0):=by rw[<-hF2];simp[f7]
 clear hF2
 cases ok with
 |false =>
  have hke:keep 0 200 (!false)=200:=rfl;simp only[hke]at g3 hb ⊢;simp[eg,uD];refine hQ _ _ _ ?_ ?_ ?_ ?_
  ·simp[v4]
  ·simp[v6]
  ·simp[v7]
  rw[hb];exact⟨w2,g3,l,g4,by simp[hl],by simp[hl,aL.ds],λ h=>by simp[hl,mZ.cells,mb.zero,hk]⟩
 |true =>
  have hke:keep 0 200 (!true)=0:=rfl;simp only[hke]at g3 hb ⊢;have ha:=aco t;have hkd:(aB [t]).length<=aM:=by simpa[aB,bo.kinds]using hcl
  have hcd:=hC [t.name] [t] rfl hkd (by simp[aM]) (by simpa using hcl) s 3 0 K1 5 (by omega) g3;have hav:x.cond.av=.agg x.cond.cells 8:=Eq.trans rfl rfl;rw[hav]at hcd;generalize fG [t.name] [t] x.cond 0=cd at *;obtain⟨cl,ce⟩:=cd;simp only[lC]at hcd ha;have hat:aA.av t=.agg [.int .u32 t.id,.str t.name,bL.ds t.cols,.int .u32 t.head] 4:=rfl;rw[hat]at ha;have ha':=ha.Ig K1 5;generalize x.cond.cells=cs at *;simp[eg,uD];simp only[Ju,kZ];refine cj.of (xe (l:=[⟨54,[.agg [.int .u32 t.id,.str t.name,bL.ds t.cols,.int .u32 t.head] 4],K1,5,.agg [cK.ds [t.name],aA.ds [t]] 2,K1,5⟩,⟨53,[.ptr 3 0,.agg [cK.ds [t.name],aA.ds [t]] 2,.agg cs 8],K1,5,eX.ds cl,K1.put 3 (some (eg s ce)),5⟩]) ?_) ?_
  ·simp only[mem_cons,not_mem_nil,or_false];rintro c (rfl|rfl)
   ·exact ha'
   exact hcd
  have e2:∀c1,(Z4 [⟨54,[.agg [.int .u32 t.id,.str t.name,bL.ds t.cols,.int .u32 t.head] 4],K1,5,.agg [cK.ds [t.name],aA.ds [t]] 2,K1,5⟩,⟨53,[.ptr 3 0,.agg [cK.ds [t.name],aA.ds [t]] 2,.agg cs 8],K1,5,eX.ds cl,K1.put 3 (some (eg s ce)),5⟩]).call 53 c1 K1 5=(Z4 [⟨53,[.ptr 3 0,.agg [cK.ds [t.name],aA.ds [t]] 2,.agg cs 8],K1,5,eX.ds cl,K1.put 3 (some (eg s ce)),5⟩]).call 53 c1 K1 5:=λ c1=>UK (by decide);simp[ab,v3,v6,v7,g4,hl,w1,hg,qT,e2];refine hQ _ _ _ ?_ ?_ ?_ ?_
  ·simp[ab,v4]
  ·simp[ab,v6]
  ·simp[ab,v7]
  rw[hb];refine⟨by simp[w2],by simp,_,(Tr.get_put _ _ _ _).trans (ao rfl),rfl,?_,λ h=>?_⟩
  ·simp[aL.ds]
  simp[mZ.cells,mb.zero,hk]
theorem bN.ard {x:bN}(h:x.may=true):x.ok=true:=by
 unfold bN.may at h;rw[dN]at h;exact h.1
theorem cM.abY {s:bB}(ho:eM s){x:bN}(hx:x.sm) (h:x.q.may=true):x.q.dz s:=by
 have hm:x.q.cond.maybe=true/\x.q.ay.length<=4/\(x.q.star=true->x.q.items.length=0)/\(x.q.star=false->x.q.items.length<=16)/\(∀y∈x.q.items,y.e.may=true)/\vG x.q.ay=true:=by
  simp only[cM.may,dN,all_eq_true,decide_eq_true_eq]at h;obtain⟨⟨⟨⟨⟨⟨⟨⟨h1,h2⟩,h3⟩,h4⟩,h5⟩,h6⟩,h7⟩,h8⟩,h9⟩:=h;refine⟨h1,h2,λ e=>?_,λ e=>?_,λ y hy=>?_,h8⟩
  ·rw[e]at h6;simpa using h6
  ·rw[e]at h6;simp at h6;exact h6.2
  have:=h7 y hy;simp only[OD.ok,dN]at this;exact this.1
 obtain⟨h1,h2,h3,h4,h5,h6⟩:=hm
 have hcols:∀y:Src,(s.tb y).cols.length<=16:=λ y=>gU (Q:=λ t:bo=>t.cols.length<=16) (by simp[bo.zero]) λ t ht=>by
  obtain⟨i,hi,rfl⟩:=getElem_of_mem ht;exact(ho.tabs i hi).cols.2.1
 have hk:∀l:List Src,(aB (l.map s.tb)).length<=16*l.length:=by
  intro l
  induction l with
  |nil=>simp[aB]
  |cons y l ih =>
   have:=hcols y;simp only[aB,map_cons,flatMap_cons,length_append,length_cons]at ih ⊢;simp only[bo.kinds,length_map]at ih ⊢;omega
 refine⟨?_,hx.ay,hx.order,λ y hy=>⟨hx.item y hy,h5 y hy⟩,λ y hy=>⟨hx.src y hy,?_⟩,hx.qc,h1⟩
 ·have:=hk x.q.ay
  have:x.q.items.length<=16:=by
   cases e:x.q.star with
   |true=>have:=h3 e;omega
   |false=>exact h4 e
  unfold aM;omega
 cases hs:x.q.ay with
 |nil=>rw[hs]at hy;cases hy
 |cons z r =>
  rw[hs]at h6 hy;simp only[vG,dN,all_eq_true]at h6;simp only[Ex.maybe,Bool.or_eq_true]
  rcases mem_cons.1 hy with rfl|hy
  ·have:=h6.1;simp only[Src.ok,if_true,dN]at this;exact .inl this.2.2
  have:=h6.2 y hy;simp only[Src.ok,dN]at this;exact .inr this.2.2
theorem air (s:bB)(hs:s.dz)(x:bN)(h17:ae pG 45 [x.av] (.bool x.may))(hbd:x.ok=true->eM s->∀(F:Fr)(K:Hp)(Q:QA),E5 s x F K->ZU s x Q->VC pG C5 F K 5 [] Q):ae pG 23 [fe.av s,x.av] (.aX [.agg (cy s x).1.cells 25,zI (cy s x).2]):=by
 refine pv c23 λ F hF=>?_;have lR:=ac6 s hs;have hav:x.av=.agg x.cells 31:=Eq.trans rfl rfl;have hsv:fe.av s=.agg [aA.ds s.tables,aQ.ds s.indexes] 2:=rfl;have x0:=x.g0;have xl:=x.bf;have xp:=x.pure;rw[hav]at hF h17;rw[hsv]at hF lR
 have body:eM s/\x.may=true->∀(F:Fr) (K:Hp),E5 s x F K->VC pG C5 F K 5 [] (fy 0 (pW pG M5 (iO [bU 4 25,aI 5] λ v1 H' _=>eY H'.get v1 (.aX [.agg (cy s x).1.cells 25,zI (cy s x).2])))):=by
  rintro⟨ho,hm⟩ F K E;have hb:cy s x=AY (oq s x):=by simp[cy,ho,hm]
  have ok:=bN.ard hm
  have fin:ZU s x (fy 0 (pW pG M5 (iO [bU 4 25,aI 5] λ v1 H' _=>eY H'.get v1 (.aX [.agg (cy s x).1.cells 25,zI (cy s x).2])))):=by
   intro F' K' n' g4 g6 g7 O;rw[hb];exact Qj s _ _ F' K' n' g4 g6 g7 O
  exact hbd ok ho F K _ E fin
 have hz0:=we 0;have hzk:=we x.kind;clear hs hav hbd;have hR:A23.res=[bU 4 25,aI 5]:=rfl;simp only[hR,b5]
 by_cases ho:eM s
 ·by_cases hm:x.may=true
  ·have body:=body ⟨ho,hm⟩;generalize cy s x=R at *;generalize hxs:x.cells=xs at *;simp only[ho,decide_true]at lR;simp only[hm]at h17;simp[Gq,hF];simp[Gp];refine aw.pure lR ?_;simp;refine aw.pure h17 ?_;simp[X6,X5,X4,x0];rw[<-hz0,<-hzk];refine body _ _ ⟨?_,?_,?_,?_,?_,?_,?_,?_,?_,?_,?_,λ b hb=>?_⟩
   ·simp
   ·simp
   ·simp
   ·simp
   ·simp
   ·simp
   ·simp[dI]
   ·simp[hxs]
   ·simp
   ·simp[eg,uD]
   ·simp
   simp[show ¬b=0 by omega,show ¬b=1 by omega,show ¬b=2 by omega,show ¬b=3 by omega,show ¬b=4 by omega]
  have hb:cy s x=(ab',1):=by simp[cy,hm]
  have hm':x.may=false:=by simpa using hm
  rw[hb];clear body;generalize hxs:x.cells=xs at *;simp only[ho,decide_true]at lR;simp only[hm']at h17;simp[Gq,hF];simp[Gp];refine aw.pure lR ?_;simp;refine aw.pure h17 ?_;simp[MP];exact .aX _ _ (.cons _ _ _ _ (.agg _ _ _ ((wc 0 _).PZ (by simp))) (.cons _ _ _ _ fp .nil))
 have hb:cy s x=(ab',1):=by simp[cy,ho]
 rw[hb];clear body h17;generalize hxs:x.cells=xs at *;simp only[ho,decide_false]at lR;simp[Gq,hF];simp[Gp];refine aw.pure lR ?_;simp[MP];exact .aX _ _ (.cons _ _ _ _ (.agg _ _ _ ((wc 0 _).PZ (by simp))) (.cons _ _ _ _ fp .nil))
theorem xu (s:bB)(hs:s.dz)(x:bN)(hx:x.sm)(hk:x.kind=5∨(x.kind=6/\x.cond.bare 0)∨(x.kind=8/\ae pG 113 [.agg x.q.cells 15] (.bool x.q.may)/\x.q.cond.bare 0/\(∀y∈x.q.ay,y.cond.bare 0)/\x.q.items=[]/\x.q.order=[])):ae pG 23 [fe.av s,x.av] (.aX [.agg (cy s x).1.cells 25,zI (cy s x).2]):=by
 refine air s hs x (agN x hx (hk.imp id (Or.imp And.left λ h=>⟨h.1,h.2.1⟩))) λ ok ho F K Q E fin=>?_
 rcases hk with h|⟨h,hb⟩|⟨h,_,h1,h2,h3,h4⟩
 ·refine acg s hs x hx (λ r hr=>⟨(hx.row r hr).1,λ e he=>⟨(hx.row r hr).2 e he,?_⟩⟩) h F K Q E fin;simp[bN.ok,h]at ok;have:=ok.2 r hr;simp only[rowOk,dN,all_eq_true]at this;exact this.2 e he
 ·exact acf s hs x (UB hb) h F K Q E fin
 simp[bN.ok,h]at ok;exact ace s hs x (cM.abY ho hx ok) (UB h1) (λ y hy=>UB (h2 y hy)) (Tq (Tm h3)) (RV h4) h F K Q E fin
end Go.Abs
namespace Go.Abs
open List
open Go.Proofs
open Classical
set_option maxRecDepth 100000
variable {α:Type}{k:Nat}
end Go.Abs
namespace Go.Abs
open List
open Go.Proofs
open Classical
set_option maxRecDepth 100000
end Go.Abs
namespace Go.Abs
open List
open Go.Proofs
open Classical
set_option maxRecDepth 100000
section
variable {F:Fr}{H:Hp}{n:Nat}
end
end Go.Abs
namespace Go.Abs
open List
open Go.Proofs
open Classical
set_option maxRecDepth 100000
theorem akG (t:bo)(r:List AV)(H:Hp):cZ 4 (.dp (.int .u32 t.id::.str t.name::bL.ds t.cols::.int .u32 t.head::r)) H=.val (aA.av t):=aA.mf t r H
theorem take_snoc {α:Type}{l:List α}{i:Nat}(h:i<l.length):l.take (i+1)=l.take i++[l[i]]:=by
 rw[take_add_one,cE h];rfl
def eU:aL Int 1:=⟨λ i=>[.int .u32 i],λ _=>rfl,λ _=>by simp,λ _=>by simp[aY,AV.one]⟩
structure PgF (s:bB)(l:List Int)(x:AV)(F:Fr)(K:Hp)(n:Nat):Prop where
 f1:F.get 1=some (.ptr 0 0)
 f3:F.get 3=some x
 k0:K.get 0=aG 2 (fe.cells s)
 ow:au K n x (eU.l l) l.length 1
 dx:∀b,blk x=some b->1<=b
 n1:1<=n
structure C23 (s:bB)(F:Fr)(K:Hp)(n:Nat):Prop where
 f1:F.get 1=some (.ptr 0 0)
 k0:K.get 0=aG 2 (fe.cells s)
 n1:1<=n
def TbP (l:List bo)(i:Nat):Prop:=∀h:i<l.length,l[i].id≠0/\fk l[i].name/\jQ l[i].cols/\∀k (hk:k<i),(l[k]'(by omega)).id<l[i].id/\(l[k]'(by omega)).name≠l[i].name
theorem vA (l:List bo) (h0:∀t∈l,0<=t.id):xE l↔∀i,TbP l i:=by
 constructor
 ·intro h
  have asc:∀i (hi:i<l.length),0<l[i].id/\∀k (hk:k<i),(l[k]'(by omega)).id<l[i].id:=by
   intro i
   induction i with
   |zero=>intro hi;have:=(h 0 hi).id;rw[AA]at this;exact⟨this,λ k hk=>by omega⟩
   |succ i ih =>
    intro hi;obtain⟨a1,a2⟩:=ih (by omega);have:=(h (i+1) hi).id;rw[Az (by omega)]at this;refine⟨by omega,λ k hk=>?_⟩
    by_cases e:k=i
    ·subst e;exact this
    have:=a2 k (by omega);omega
  intro i hi;refine⟨by have:=(asc i hi).1;omega,(h i hi).name,(h i hi).cols,λ k hk=>⟨(asc i hi).2 k hk,(h i hi).new _ (mem_take_iff_getElem.2 ⟨k,by omega,rfl⟩)⟩⟩
 intro h i hi;refine⟨?_,(h i hi).2.1,(h i hi).2.2.1,λ t ht=>?_⟩
 ·cases i with
  |zero=>rw[AA];have:=(h 0 hi).1;have:=h0 _ (b6 hi);omega
  |succ i=>rw[Az (by omega)];exact((h (i+1) hi).2.2.2 i (by omega)).1
 obtain⟨k,hk,rfl⟩:=mem_take_iff_getElem.1 ht;exact((h i hi).2.2.2 k (by omega)).2
structure bB.eA (s:bB):Prop where
 t:∀t∈s.tables,0<=t.id
 i:∀t∈s.indexes,0<=t.id
theorem dY (i:Int)(h1 : -2147483648<=i)(h2:i<2147483648):IntKind.i64.wrap i=i:=by
 simp[IntKind.wrap,IntKind.signed,IntKind.bits];omega
@[simp] theorem ajY (a b:List Nat):FK (.str a) (.str b)=.val (zI (cmpL a b)):=Eq.trans rfl rfl
def rk (k:Int):Int:=if k=2 then 3 else if k=1 then 2 else if k=3 then 1 else 0
def pl (k:Int):Int:=if k=0 then 0 else if k=3 then 1 else if k=1 then 2 else 3
theorem RP (k:Int):ae pG 227 [zI k] (zI (rk k)):=by
 refine pv c227 λ F hF=>?_;unfold rk
 by_cases h2:k=2
 ·subst h2;simp[A227,hF,dY];exact fp
 by_cases h1:k=1
 ·subst h1;simp[A227,hF,dY];exact fp
 by_cases h3:k=3
 ·subst h3;simp[A227,hF,dY];exact fp
 simp[A227,hF,h1,h2,h3];exact fp
theorem ah9 (a b:List Nat):ae pG 285 [.str a,.str b] (zI (cmpL a b)):=by
 refine pv c285 λ F hF=>?_;simp[A285,hF];exact fp
theorem ah6 (a b:List Nat):ae pG 228 [.str a,.str b] (zI (cmpL a b)):=by
 refine pv c228 λ F hF=>?_;simp[A228,hF];refine aw.pure (ah9 a b) ?_;simp;exact fp
def Val.ord (v u:Val):Int:=if v.kind=u.kind then (if v.kind=2 then cmpL v.s u.s else if v.num<u.num then -1 else if u.num<v.num then 1 else 0)else (if rk v.kind<rk u.kind then -1 else 1)
theorem KH (v u:Val):ae pG 164 [v.av,u.av] (zI (v.ord u)):=by
 refine pv c164 λ F hF=>?_;obtain⟨k,a,s⟩:=v;obtain⟨q,b,t⟩:=u;simp only[Val.ord]
 by_cases hk:k=q
 ·subst hk
  by_cases h2:k=2
  ·subst h2;simp[A164,hF,Val.av];refine aw.pure (ah6 s t) ?_;simp;exact fp
  by_cases h3:a<b
  ·simp[A164,hF,Val.av,h2,h3];exact fp
  by_cases h4:b<a
  ·simp[A164,hF,Val.av,h2,h3,h4];exact fp
  simp[A164,hF,Val.av,h2,h3,h4];exact fp
 simp[A164,hF,Val.av,hk];refine cj.of (dK (l:=[(227,[zI k],λ H n=>.mk (zI (rk k)) H n),(227,[zI q],λ H n=>.mk (zI (rk q)) H n)]) ?_) ?_
 ·intro x hx;simp only[mem_cons,not_mem_nil,or_false]at hx
  rcases hx with rfl|rfl
  ·exact cL (RP k)
  exact cL (RP q)
 simp[ab];rw[bZ];simp[ab];rw[sW (λ _ h=>by simp at h;exact ai h.symm hk),bZ];simp
 by_cases hr:rk k<rk q
 ·simp[hr,YK];exact fp
 simp[hr,YJ];exact fp
theorem Val.lN {v:Val}(h:v.may=true):v.kind=0∨v.kind=1∨v.kind=2∨v.kind=3:=by
 unfold Val.may at h
 by_cases h0:v.kind=0
 ·exact .inl h0
 by_cases h1:v.kind=1
 ·exact .inr (.inl h1)
 by_cases h2:v.kind=2
 ·exact .inr (.inr (.inl h2))
 by_cases h3:v.kind=3
 ·exact .inr (.inr (.inr h3))
 simp[h0,h1,h2,h3]at h
theorem Val.oZ {v:Val}(h:v.may=true)(h2:v.kind=2):v.s.length<=64:=by
 unfold Val.may at h;simp[h2]at h;exact h.2
def Val.cmp (v u:Val):Int×Int:=if v.may&&u.may then (v.ord u,0)else (0,5)
theorem Qd (v u:Val):ae pG 89 [v.av,u.av] (.aX [zI (v.cmp u).1,zI (v.cmp u).2]):=by
 refine pv c89 λ F hF=>?_;unfold Val.cmp;simp[A89,hF,Val.av];refine aw.pure (lO v) ?_;generalize hv:v.may=p
 cases p with
 |false =>
  simp[Vz];exact fp
 |true =>
  simp;refine aw.pure (lO u) ?_;generalize hu:u.may=p
  cases p with
  |false =>
   simp[Vz];exact fp
  |true =>
   simp[ad0];refine aw.pure (KH v u) ?_;simp;exact fp
def dL:List Val->List AV
 |[]=>[]
 |v::r=>v.cells++dL r
@[simp] theorem Val.bf (v:Val):v.cells.length=3:=by simp[Val.cells]
@[simp] theorem ai_ (l:List Val):(dL l).length=l.length*3:=by
 induction l with
 |nil=>simp[dL]
 |cons e r ih=>simp[dL,ih];omega
theorem GQ (l:List Val)(i:Nat)(h:i<l.length):(dL l).drop (i*3)=l[i].cells++dL (l.drop (i+1)):=by
 induction l generalizing i with
 |nil=>simp at h
 |cons e r ih =>
  cases i with
  |zero=>simp[dL]
  |succ i =>
   have:(i+1)*3=e.cells.length+i*3:=by simp;omega
   rw[dL,this,<-drop_drop,drop_left' rfl];simpa using ih i (by simpa using h)
@[simp] theorem afL (l:List Val):aJ (dL l):=by
 induction l with
 |nil=>simp[dL]
 |cons e r ih=>simp[dL,Val.cells,ih]
theorem gB {l:List Val}{i:Nat}{k:IntKind}(h:i<l.length):e9 3 (.ds (dL l) l.length 3) (.int k (i:Int))=.val (.dp (l[i].cells++dL (l.drop (i+1)))):=by
 rw[rN h,GQ l i h]
theorem gK (v:Val)(r:List AV)(H:Hp):cZ 3 (.dp (v.cells++r)) H=.val v.av:=pI r v.bf
theorem Ld (v:Val)(r:List AV)(H:Hp):dP (.dp (v.cells++r)) H=.val (zI v.kind):=Eq.trans rfl rfl
theorem Val.ext_iff (v u:Val):v=u↔v.kind=u.kind/\v.num=u.num/\v.s=u.s:=by
 cases v;cases u;simp
theorem Ba (b:Bool) (v u:Val):ly b [.i,.i,.s] v.av u.av=.val (.bool (b != decide (v=u))):=by
 obtain⟨k,a,s⟩:=v;obtain⟨q,c,t⟩:=u
 have he:bF [.i,.i,.s] [zI k,zI a,.str s] [zI q,zI c,.str t]=some (decide ((Val.mk k a s)=Val.mk q c t)):=by
  simp only[bF,dH,eJ,if_true]
  by_cases h1:k=q
  ·subst h1;rw[show (k == k)=true by simp]
   by_cases h2:a=c
   ·subst h2;rw[show (a == a)=true by simp]
    by_cases h3:s=t
    ·subst h3;simp
    rw[show (s == t)=false by simpa using h3];simp[Val.ext_iff,h3]
   rw[show (a == c)=false by simpa using h2];simp[Val.ext_iff,h2]
  rw[show (k == q)=false by simpa using h1];simp[Val.ext_iff,h1]
 unfold ly Val.av;simp only[he];rfl
structure Idx where
 id:Int
 table:Int
 name:List Nat
 cols:List Int
 uniq:Bool
 root:Int
def Idx.cells (x:Idx):List AV:=[.int .u32 x.id,.int .u32 x.table,.str x.name,.ds (cu x.cols) x.cols.length 1,.bool x.uniq,.int .u32 x.root]
def Idx.av (x:Idx):AV:=.agg x.cells 6
@[simp] theorem Idx.pure (x:Idx):Pure x.av:=by simp[Idx.av,Idx.cells]
structure Spn where
 eq:List Val
 amj:Bool
 lo:Val
 agV:Bool
 amk:Bool
 hi:Val
 ahq:Bool
def Spn.cells (s:Spn):List AV:=[.ds (dL s.eq) s.eq.length 3,.bool s.amj,zI s.lo.kind,zI s.lo.num,.str s.lo.s,.bool s.agV,.bool s.amk,zI s.hi.kind,zI s.hi.num,.str s.hi.s,.bool s.ahq]
def Spn.av (s:Spn):AV:=.agg s.cells 11
@[simp] theorem Spn.pure (s:Spn):Pure s.av:=by simp[Spn.av,Spn.cells]
def aF (r:List Val):AV:=.ds (dL r) r.length 3
@[simp] theorem vS (r:List Val):Pure (aF r):=by simp[aF]
structure Ins where
 op:Int
 a:Int
 b:Int
 c:Int
 n:Int
 j:Int
 ex:Int
 id:Int
 lo:Int
 hi:Int
 agV:Bool
 ahq:Bool
 v:Val
def Ins.cells (x:Ins):List AV:=[zI x.op,zI x.a,zI x.b,zI x.c,zI x.n,zI x.j,zI x.ex,.int .u32 x.id,zI x.lo,zI x.hi,.bool x.agV,.bool x.ahq,zI x.v.kind,zI x.v.num,.str x.v.s]
def Ins.av (x:Ins):AV:=.agg x.cells 15
def EL:List Ins->List AV
 |[]=>[]
 |x::r=>x.cells++EL r
@[simp] theorem Ins.bf (x:Ins):x.cells.length=15:=by simp[Ins.cells]
@[simp] theorem al5 (l:List Ins):(EL l).length=l.length*15:=by
 induction l with
 |nil=>simp[EL]
 |cons e r ih=>simp[EL,ih];omega
theorem PX (l:List Ins):aJ (EL l):=by
 induction l with
 |nil=>simp[EL]
 |cons e r ih=>simp[EL,Ins.cells,ih]
structure Cod where
 aqK:Int
 cur:Int
 l:List Ins
def Cod.cells (c:Cod):List AV:=[zI c.aqK,zI c.cur,.ds (EL c.l) c.l.length 15]
def Cod.av (c:Cod):AV:=.agg c.cells 3
@[simp] theorem Cod.pure (c:Cod):Pure c.av:=by simp[Cod.av,Cod.cells,PX]
@[simp] theorem Ins.pure (x:Ins):Pure x.av:=by simp[Ins.av,Ins.cells]
def cV (a b:Val):Int:=if a.may&&b.may then a.ord b else if a.may then -1 else if b.may then 1 else 0
def dZ:List Val->List Val->Int
 |a::l,b::m=>if cV a b≠0 then cV a b else dZ l m
 |l,m=>(l.length:Int) - (m.length:Int)
theorem OW {l m:List Val}{i:Nat}(hl:i<l.length)(hm:i<m.length):dZ (l.drop i) (m.drop i)=if cV l[i] m[i]≠0 then cV l[i] m[i]else dZ (l.drop (i+1)) (m.drop (i+1)):=by
 rw[km hl,km hm,dZ]
theorem Rt {l m:List Val}{i:Nat}(h1:i<=l.length)(h2:i<=m.length)(h:i=l.length∨i=m.length):dZ (l.drop i) (m.drop i)=(l.length:Int) - (m.length:Int):=by
 have:l.drop i=[]∨m.drop i=[]:=by
  rcases h with rfl|rfl
  ·exact .inl (drop_length ..)
  exact .inr (drop_length ..)
 rcases this with e|e
 ·have h':l.length - i=0:=by rw[<-length_drop,e];rfl
  rw[e,dZ.eq_2 _ _ (by rintro a l' b m' h;cases h)];simp;omega
 have h':m.length - i=0:=by rw[<-length_drop,e];rfl
 rw[e,dZ.eq_2 _ _ (by rintro a l' b m' _ h;cases h)];simp;omega
theorem KI (l m:List Val) (hl:l.length<=1048576) (hm:m.length<=1048576):ae pG 40 [aF l,aF m] (zI (dZ l m)):=by
 refine pv c40 λ F hF=>?_
 have hmin:Ey .i64 (l.length:Int) [zI (m.length:Int)]=some (zI ((min l.length m.length:Nat):Int)):=by
  unfold Ey;simp[Ey];omega
 obtain⟨M,hM⟩:∃M,M=min l.length m.length:=⟨_,rfl⟩;rw[<-hM]at hmin;simp[A40,hF,aF,wW,PI,hmin];refine aE.of (λ k F K n ms=>∃i,k=M - i/\i<=l.length/\i<=m.length/\F.get 0=some (aF l)/\F.get 1=some (aF m)/\F.get 12=some (zI (M:Int))/\F.get 13=some (zI (i:Int))/\K=.nil/\ms=[]/\dZ l m=dZ (l.drop i) (m.drop i)) M ⟨0,by simp[hF,aF]⟩ ?_;rintro k F K n ms ⟨i,rfl,hi,hib,f0,f1,f12,f13,rfl,rfl,he⟩
 by_cases hlt:i<M
 ·have h1 : i<l.length:=by omega
  have h2:i<m.length:=by omega
  have hx:=gB (k:=.i64) h1;have hy:=gB (k:=.i64) h2;rw[OW h1 h2]at he;simp[ZE,f12,f13,hlt];refine cj.of (dK (l:=[(89,[l[i].av,m[i].av],λ H n=>.mk (.aX [zI (l[i].cmp m[i]).1,zI (l[i].cmp m[i]).2]) H n)]) ?_) ?_
  ·intro x hx;simp only[mem_cons,not_mem_nil,or_false]at hx;subst hx;exact cL (Qd l[i] m[i])
  simp[ab,f0,f1,aF,hx,hy,gK];rw[bZ];have w:=aC i (by omega);unfold cV at he;unfold Val.cmp
  by_cases ha:l[i].may=true
  ·by_cases hb:m[i].may=true
   ·rw[ha,hb]at he ⊢;simp at he ⊢
    by_cases hc:l[i].ord m[i]=0
    ·rw[ao hc]at he;simp[Gi,tz,hc,I5,ab,f13,w,f0,f1,f12,aF];exact⟨M - (i+1),by omega,i+1,rfl,by omega,by omega,by omega,he⟩
    rw[ah hc]at he;simp[Gi,tz,hc,BC,he];exact fp
   have hb:m[i].may=false:=by simpa using hb
   rw[ha,hb]at he ⊢;simp at he ⊢;simp[Gi,W7,W6,ab,f0,aF,hx,gK];refine aw.pure (lO l[i]) ?_;simp[ha,aeF,tz,BC,he];exact fp
  have ha:l[i].may=false:=by simpa using ha
  rw[ha]at he ⊢;simp at he ⊢;simp[Gi,W7,W6,ab,f0,aF,hx,gK];refine aw.pure (lO l[i]) ?_;simp[ha,aeE,ab,f1,aF,hy,gK];refine aw.pure (lO m[i]) ?_
  by_cases hb:m[i].may=true
  ·rw[hb]at he ⊢;simp at he;simp[W9,tz,BC,he];exact fp
  have hb:m[i].may=false:=by simpa using hb
  rw[hb]at he ⊢;simp at he;simp[tz,I5,ab,f13,w,f0,f1,f12,aF];exact⟨M - (i+1),by omega,i+1,rfl,by omega,by omega,by omega,he⟩
 have e:i=M:=by omega
 rw[Rt hi hib (by omega)]at he;simp[ZE,f12,f13,hlt,W8,f0,f1,aF,dY ((l.length:Int) - (m.length:Int)) (by omega) (by omega),he];exact fp
theorem aiH (l m:List Val) (hl:l.length<=1048576):ae pG 35 [aF l,aF m] (.bool (decide (l=m))):=by
 refine pv c35 λ F hF=>?_;simp[A35,hF,aF]
 by_cases hlm:l.length=m.length
 ·simp[hlm,aeS];refine aE.of (λ k F K n ms=>∃i,k=l.length - i/\i<=l.length/\F.get 0=some (aF l)/\F.get 1=some (aF m)/\F.get 5=some (zI (i:Int))/\K=.nil/\ms=[]/\(l=m↔l.drop i=m.drop i)) l.length ⟨0,by simp[hF,aF]⟩ ?_;rintro k F K n ms ⟨i,rfl,hi,f0,f1,f5,rfl,rfl,he⟩
  by_cases hlt:i<l.length
  ·have h2:i<m.length:=by omega
   have hx:=gB (k:=.i64) hlt;have hy:=gB (k:=.i64) h2;rw[km hlt,km h2,List.cons.injEq]at he;simp[ZH,f0,f5,aF,hlt];refine cj.of (cN (P:=pG)) ?_;simp[ab,f0,f1,f5,aF,hx,hy,gK,Ba]
   by_cases hc:l[i]=m[i]
   ·have w:=aC i (by omega);simp[hc,aeQ,ab,f0,f1,f5,w,aF];exact⟨l.length - (i+1),by omega,i+1,rfl,by omega,by omega,by rw[he];simp[hc]⟩
   have:¬l=m:=λ e=>hc (he.1 e).1;simp[hc,aeR,this];exact fp
  have e:i=l.length:=by omega
  have:l=m:=he.2 (by rw[e,drop_length,hlm,drop_length]);subst this;simp[ZH,f0,f5,aF,hlt,aeP];exact fp
 have:¬l=m:=λ e=>hlm (by rw[e]);simp[hlm,aeT,this];exact fp
def bG (L:List (List Val)):List AV:=L.map aF
@[simp] theorem OV (L:List (List Val)):(bG L).length=L.length:=by simp[bG]
@[simp] theorem fC (L:List (List Val)):aJ (bG L):=aJ.nO λ v hv=>by
 simp only[bG,mem_map]at hv;obtain⟨i,_,rfl⟩:=hv;simp
theorem G0 (l:List (List Val))(i:Nat)(h:i<l.length):(bG l).drop i=aF l[i]::bG (l.drop (i+1)):=by
 rw[bG,<-map_drop,km h];rfl
theorem ji {l:List (List Val)}{i:Nat}{k:IntKind}(h:i<l.length):e9 1 (.ds (bG l) l.length 1) (.int k (i:Int))=.val (.dp (aF l[i]::bG (l.drop (i+1)))):=by
 rw[rN h,Nat.mul_one,G0 l i h]
theorem Qu (L M:List (List Val)) (hL:L.length<=1048576) (hl:∀l∈L,l.length<=1048576):ae pG 16 [.ds (bG L) L.length 1,.ds (bG M) M.length 1] (.bool (decide (L=M))):=by
 refine pv c16 λ F hF=>?_;simp[A16,hF]
 by_cases hlm:L.length=M.length
 ·simp[hlm,afc];refine aE.of (λ k F K n ms=>∃i,k=L.length - i/\i<=L.length/\F.get 0=some (.ds (bG L) L.length 1)/\F.get 1=some (.ds (bG M) M.length 1)/\F.get 5=some (zI (i:Int))/\K=.nil/\ms=[]/\(L=M↔L.drop i=M.drop i)) L.length ⟨0,by simp[hF]⟩ ?_;rintro k F K n ms ⟨i,rfl,hi,f0,f1,f5,rfl,rfl,he⟩
  by_cases hlt:i<L.length
  ·have h2:i<M.length:=by omega
   have hx:=ji (k:=.i64) hlt;have hy:=ji (k:=.i64) h2;rw[km hlt,km h2,List.cons.injEq]at he;simp[ZN,f0,f5,hlt];refine cj.of (dK (l:=[(35,[aF L[i],aF M[i]],λ H n=>.mk (.bool (decide (L[i]=M[i]))) H n)]) ?_) ?_
   ·intro x hx;simp only[mem_cons,not_mem_nil,or_false]at hx;subst hx;exact cL (aiH L[i] M[i] (hl _ (b6 _)))
   simp[ab,f0,f1,f5,hx,hy];rw[bZ]
   by_cases hc:L[i]=M[i]
   ·have w:=aC i (by omega);simp[hc,afa,ab,f0,f1,f5,w];exact⟨L.length - (i+1),by omega,i+1,rfl,by omega,by omega,by rw[he];simp[hc]⟩
   have:¬L=M:=λ e=>hc (he.1 e).1;simp[hc,afb,this];exact fp
  have e:i=L.length:=by omega
  have:L=M:=he.2 (by rw[e,drop_length,hlm,drop_length]);subst this;simp[ZN,f0,f5,hlt,ae'];exact fp
 have:¬L=M:=λ e=>hlm (by rw[e]);simp[hlm,afd,this];exact fp
def yj (c:ny)(v:Val):Int:=if v.may=false then 5 else if v.kind≠0/\v.kind≠c.kind then 30 else if v.kind=0/\c.need=true then 50 else 0
def AW:List ny->List Val->Int
 |c::cs,v::vs=>if yj c v=0 then AW cs vs else yj c v
 |_,_=>0
theorem P2 {c:List ny}{v:List Val}{i:Nat}(h1:i<c.length)(h2:i<v.length):AW (c.drop i) (v.drop i)=if yj c[i] v[i]=0 then AW (c.drop (i+1)) (v.drop (i+1))else yj c[i] v[i]:=by
 rw[km h1,km h2];rfl
def qM (c:List ny)(v:List Val):Int:=if jQ c/\v.length=c.length then AW c v else 1
theorem T0 (c : List ny) (v:List Val) (hv:v.length<=aM):ae pG 38 [bL.ds c,aF v] (zI (qM c v)):=by
 unfold aM at hv;refine pv c38 λ F hF=>?_;unfold qM;simp[A38,hF];refine aw.pure (ac4 c) ?_
 by_cases hc:jQ c
 ·by_cases hl:v.length=c.length
  ·simp[hc,hF,aF,aL.aD,hl,aeM];refine aE.of (λ k F K n ms=>∃i,k=v.length - i/\i<=v.length/\F.get 0=some (bL.ds c)/\F.get 17=some (aF v)/\F.get 18=some (zI (v.length:Int))/\F.get 19=some (zI (i:Int))/\ms=[]/\AW c v=AW (c.drop i) (v.drop i)) v.length ⟨0,by simp[hF,aF,hl]⟩ ?_;rintro k F K n ms ⟨i,rfl,hi,f0,f17,f18,f19,rfl,he⟩
   by_cases hlt:i<v.length
   ·have hx:=gB (k:=.i64) hlt;have hy:=bL.ix (ik:=.i64) (l:=c) (i:=i) (by omega);rw[nY]at hy;rw[P2 (by omega) hlt]at he;rw[aF]at f17;rw[he];generalize v[i]=u at *;generalize c[i]=d at *;have hm:=lO u;simp only[Val.av]at hm;simp[ZG,f18,f19,hlt,f17,hx,gK,Val.av];refine aw.pure hm ?_
    by_cases h1:u.may=true
    ·simp[h1,aeK];refine cj.of (cN (P:=pG)) ?_
     by_cases h2:u.kind=0
     ·by_cases h3:d.need=true
      ·simp[ab,f0,hy,h2,BD,h3,Xo,yj,h1];exact fp
      simp[ab,f0,hy,h2,BD,h3,I6,yj,h1,f17,f18,f19,aC i (by omega)];exact⟨_,by omega,i+1,rfl,hlt,by simp[aF],rfl,by simp⟩
     by_cases h3:u.kind=d.kind
     ·simp[ab,f0,hy,h3,BD,I6,yj,h1,f17,f18,f19,aC i (by omega),show ¬d.kind=0 by omega];exact⟨_,by omega,i+1,rfl,hlt,by simp[aF],rfl,by simp⟩
     simp[ab,f0,hy,h2,h3,aeJ,yj,h1];exact fp
    simp[h1,aeL,yj];exact fp
   obtain rfl:i=v.length:=by omega
   rw[he];simp[ZG,f18,f19,Xn,AW];exact fp
  simp[hc,hF,aF,aL.aD,hl,Xm];exact fp
 simp[hc,Xm];exact fp
def zk (H:Hp):List Nat->Hp
 |[]=>H
 |b::r=>(zk H r).put b none
def vu (H:Hp):List (Nat×List AV)->Hp
 |[]=>H
 |e::r=>(vu H r).put e.1 (some (.cells e.2.length [] e.2 .nil))
theorem lS (H:Hp)(L:List Nat)(c:Nat):(zk H L).get c=if c∈L then none else H.get c:=by
 induction L with
 |nil=>simp[zk]
 |cons b r ih =>
  simp only[zk,Tr.get_put,ih,mem_cons]
  by_cases h:c=b
  ·simp[h]
  simp[h]
theorem lH (H:Hp)(M:List (Nat×List AV))(c:Nat)(h:c∉M.map (·.1)):(vu H M).get c=H.get c:=by
 induction M with
 |nil=>rfl
 |cons e r ih =>
  simp only[map_cons,mem_cons,not_or]at h;simp only[vu,Tr.get_put,ah h.1,ih h.2]
theorem q8 (H:Hp)(M:List (Nat×List AV))(hd:(M.map (·.1)).Nodup):∀e∈M,(vu H M).get e.1=some (.cells e.2.length [] e.2 .nil):=by
 induction M with
 |nil=>intro e h;simp at h
 |cons a r ih =>
  simp only[map_cons,nodup_cons]at hd;intro e h;simp only[vu,Tr.get_put]
  rcases mem_cons.1 h with rfl|h
  ·simp
  have:e.1≠a.1:=λ e2=>hd.1 (e2▸mem_map_of_mem h);rw[ah this,ih hd.2 e h]
theorem aj.GG {P:Program}{g:FuncId}{args:List AV}{H:Hp}{n n':Nat}{v0:AV}(L:List Nat) (M:List (Nat×List AV)) (ha:cT n args) (hL:∀b∈L,b<n) (hx:∀b∈L,H.get b≠none) (hb:∀b∈L,∀k,H.get b=some k->tu n k)
  (hn:n<=n')(hd:(M.map (·.1)).Nodup)(hM:∀e∈M,e.1∈L∨(n<=e.1/\e.1<n'))(h:aj P g args (pick H L) n (λ v K k=>v=v0/\(∀e∈M,∃y,K.get e.1=some y/\OwnB y e.2)/\k<=n')):
  ∃H1,bc P g args H n v0 H1 n'/\(∀e∈M,H1.get e.1=some (.cells e.2.length [] e.2 .nil))/\(∀c,c∉L->c<n∨n'<=c->H1.get c=H.get c):=by
 have hout:∀c,c∉L->c<n∨n'<=c->c∉M.map (·.1):=λ c h1 h2 h3=>by
  obtain⟨e,h4,rfl⟩:=mem_map.1 h3
  rcases hM e h4 with h5|h5
  ·exact h1 h5
  omega
 refine⟨vu (zk H (L++range' n (n' - n))) M,aj.okS (S:=pick H L) (S':=vu (zk .nil (L++range' n (n' - n))) M) (h.mono λ v K k ⟨h1,h2,h3⟩=>⟨h1,λ b y hy=>?_,h3⟩) hn ha (λ b k hk=>?_) (λ b k hk=>?_) (λ b hb=>?_) (λ b hb1 hb2=>?_),q8 _ M hd,λ c h1 h2=>?_⟩
 ·by_cases h4:b∈M.map (·.1)
  ·obtain⟨e,h5,rfl⟩:=mem_map.1 h4;rw[q8 _ M hd e h5]at hy;injection hy with hy;obtain⟨y',h6,h7⟩:=h2 e h5;exact⟨y',h6,hy▸h7.ble rfl⟩
  rw[lH _ _ _ h4,lS]at hy
  split at hy<;>simp at hy
 ·rw[ew]at hk
  split at hk
  ·rename_i hm;exact⟨hL b hm,hb b hm k hk⟩
  cases hk
 ·rw[ew]at hk
  split at hk
  ·exact hk
  cases hk
 ·by_cases h4:b∈M.map (·.1)
  ·obtain⟨e,h5,rfl⟩:=mem_map.1 h4;rw[q8 _ M hd e h5,q8 _ M hd e h5]
  rw[lH _ _ _ h4,lH _ _ _ h4,lS,lS];rw[ew]at hb;rw[ao,ao]
  all_goals
   rw[mem_append,List.mem_range'_1]
   rcases hb with hb|hb
   ·split at hb
    ·rename_i hm;exact .inl hm
    exact ai rfl hb
   exact .inr (by omega)
 ·by_cases hm:b∈L
  ·rw[ew,ao hm]at hb1;exact ai hb1 (hx b hm)
  rw[lH _ _ _ (hout b hm (by omega)),lS,ah];rw[mem_append,List.mem_range'_1];rintro(h|h)
  ·exact hm h
  omega
 rw[lH _ _ _ (hout c h1 h2),lS,ah];rw[mem_append,List.mem_range'_1];rintro(h|h)
 ·exact h1 h
 omega
end Go.Abs
