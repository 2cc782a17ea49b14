/- A part. -/
import Derived.Calls
import Derived.LoopN
import Derived.OrdersIn
noncomputable section
namespace Go.Abs
open List
theorem ae{p:Prop}(h:p:=by omega):p:=h
theorem ah{p:Prop}(h:p:=by simp):p:=h
theorem ai {c:Prop}{h:Decidable c}(k:¬c){α:Sort _}{t e:α}:(if c then t else e)=e:=if_neg k
theorem aw {c:Prop}{h:Decidable c}(k:c){α:Sort _}{t e:α}:(if c then t else e)=t:=if_pos k
theorem ar {a b:Prop}(h:a)(k:¬a):b:=absurd h k
theorem aK(n:Nat):n<=n:=Nat.le_refl n
theorem cT{n m:Nat}(h:n.beq m=true):n=m:=Nat.eq_of_beq_eq_true h
theorem eF{n m:Nat}(h:n.ble m=true):n<=m:=Nat.le_of_ble_eq_true h
theorem wq{n m:Nat}(h:n<=m):n.ble m=true:=Nat.ble_eq_true_of_le h
theorem cy{α β:Type}(a:α)(w:World)(f:α->World->Result β):(Result.ok a w).andThen f=f a w:=rfl
theorem cX{α:Type _}{l:List α}{i:Nat}(h:i<l.length):l[i]?=some l[i]:=getElem?_eq_getElem h
theorem dw{α:Type _}{l:List α}{n:Nat}(h:n<l.length):l[n]∈l:=getElem_mem h
theorem iG{α:Type _}{b:α}{β:Type _}{x:Option β}{f:β->Option α}:x.bind f=some b↔∃a,x=some a/\f a=some b:=Option.bind_eq_some_iff
theorem cL{α β:Type}(P:Program)(w:World)(x:Sem α)(f:α->Sem β):Sem.run P (x>>=f) w=(Sem.run P x w).andThen λ a k=>Sem.run P (f a) k:=Sem.run_bind P w x f
theorem dB{α:Type}(P:Program)(w:World)(a:α):Sem.run P (pure a) w=Result.ok a w:=Sem.run_pure P w a
theorem fN{α:Type _}{i:Nat}{l:List α}(h:l.length<=i):take i l=l:=take_of_length_le h
theorem dS(a b:Bool):((a&&b)=true)=(a=true/\b=true):=Bool.and_eq_true a b
theorem kJ{α β:Type _}:(bind:Option α->(α->Option β)->Option β)=Option.bind:=Option.bind_eq_bind
theorem ga{α:Type _}{i:Nat}{l:List α}(h:i<l.length):drop i l=l[i]::drop (i+1) l:=drop_eq_getElem_cons h
theorem mi{α:Type _}{a b:α}:a∈[b]↔a=b:=mem_singleton
theorem nH{α:Type _}{i:Nat}{a:α}{l:List α}:l[i]?=some a↔∃h:i<l.length,l[i]=a:=List.getElem?_eq_some_iff
theorem lj{α:Type _}{l:List α}{i j:Nat}:(drop i l)[j]?=l[i+j]?:=getElem?_drop
theorem C6{n m:Nat}(k:Nat)(h:n<=m):n*k<=m*k:=Nat.mul_le_mul_right k h
theorem q7(n:Nat):0+n=n:=Nat.zero_add n
theorem wo{n m k:Nat}(h:n<=m)(l:m<=k):n<=k:=Nat.le_trans h l
theorem uJ{α:Type _}{i:Nat}{a:α}{l:Array α}:l[i]?=some a↔∃h:i<l.size,l[i]=a:=Array.getElem?_eq_some_iff
inductive Tr (α:Type) where
 |nil
 |node (v:Option α) (l r:Tr α)
namespace Tr
variable {α:Type}
def get (t:Tr α):Nat->Option α:=
 Tr.rec (motive:=λ _=>Nat->Option α) (λ _=>none) (λ v _ _ gl gr n =>
  Bool.rec (motive:=λ _=>Option α) (Bool.rec (motive:=λ _=>Option α) (gr (Nat.div (Nat.sub n 1) 2)) (gl (Nat.div (Nat.sub n 1) 2)) (Nat.beq (Nat.mod (Nat.sub n 1) 2) 0)) v (Nat.beq n 0)) t
def single (f:Nat):Nat->Option α->Tr α:=
 Nat.rec (motive:=λ _=>Nat->Option α->Tr α) (λ _ _=>.nil) (λ _ ih n v =>
  Bool.rec (motive:=λ _=>Tr α) (Bool.rec (motive:=λ _=>Tr α) (.node none .nil (ih (Nat.div (Nat.sub n 1) 2) v)) (.node none (ih (Nat.div (Nat.sub n 1) 2) v) .nil) (Nat.beq (Nat.mod (Nat.sub n 1) 2) 0)) (.node v .nil .nil) (Nat.beq n 0)) f
def put (t:Tr α):Nat->Option α->Tr α:=
 Tr.rec (motive:=λ _=>Nat->Option α->Tr α) (λ n v=>single (Nat.succ n) n v) (λ x l r pl pr n v =>
  Bool.rec (motive:=λ _=>Tr α) (Bool.rec (motive:=λ _=>Tr α) (.node x l (pr (Nat.div (Nat.sub n 1) 2) v)) (.node x (pl (Nat.div (Nat.sub n 1) 2) v) r) (Nat.beq (Nat.mod (Nat.sub n 1) 2) 0)) (.node v l r) (Nat.beq n 0)) t
structure Gt (α:Type) where
 f:Tr α->Option α
structure Pt (α:Type) where
 f:Option α->Tr α->Tr α
def hd (t:Tr α):Option α:=Tr.rec (motive:=λ _=>Option α) none (λ v _ _ _ _=>v) t
def goL (k:Gt α)(t:Tr α):Option α:=Tr.rec (motive:=λ _=>Option α) none (λ _ l _ _ _=>k.f l) t
def goR (k:Gt α)(t:Tr α):Option α:=Tr.rec (motive:=λ _=>Option α) none (λ _ _ r _ _=>k.f r) t
def afO (f:Nat):Nat->Gt α:=
 Nat.rec (motive:=λ _=>Nat->Gt α) (λ _=>⟨λ _=>none⟩) (λ _ ih n =>
  Bool.rec (motive:=λ _=>Gt α) (Bool.rec (motive:=λ _=>Gt α) ⟨goR (ih (Nat.div (Nat.sub n 1) 2))⟩ ⟨goL (ih (Nat.div (Nat.sub n 1) 2))⟩ (Nat.beq (Nat.mod (Nat.sub n 1) 2) 0)) ⟨hd⟩ (Nat.beq n 0)) f
def phd (v:Option α)(t:Tr α):Tr α:=Tr.rec (motive:=λ _=>Tr α) (.node v .nil .nil) (λ _ l r _ _=>.node v l r) t
def pL (k:Pt α)(v:Option α)(t:Tr α):Tr α:=Tr.rec (motive:=λ _=>Tr α) (.node none (k.f v .nil) .nil) (λ x l r _ _=>.node x (k.f v l) r) t
def pR (k:Pt α)(v:Option α)(t:Tr α):Tr α:=Tr.rec (motive:=λ _=>Tr α) (.node none .nil (k.f v .nil)) (λ x l r _ _=>.node x l (k.f v r)) t
def ym (f:Nat):Nat->Pt α:=
 Nat.rec (motive:=λ _=>Nat->Pt α) (λ _=>⟨λ _ t=>t⟩) (λ _ ih n =>
  Bool.rec (motive:=λ _=>Pt α) (Bool.rec (motive:=λ _=>Pt α) ⟨pR (ih (Nat.div (Nat.sub n 1) 2))⟩ ⟨pL (ih (Nat.div (Nat.sub n 1) 2))⟩ (Nat.beq (Nat.mod (Nat.sub n 1) 2) 0)) ⟨phd⟩ (Nat.beq n 0)) f
def bO (vs:List α):Nat->Tr α->Tr α:=
 List.rec (motive:=λ _=>Nat->Tr α->Tr α) (λ _ t=>t) (λ v _ ih i t=>ih (Nat.succ i) (t.put i (some v))) vs
end Tr
inductive Ov (α:Type) where
 |nil
 |tr (v:Option α) (l r:Tr α)
 |ch (s:Nat) (c:Tr (List α)) (o:Tr α)
section
variable {α:Type}
def tlO (e:List α):List α:=List.rec (motive:=λ _=>List α) [] (λ _ t _=>t) e
def HZ (n:Nat):List α->List α:=Nat.rec (motive:=λ _=>List α->List α) (λ l=>l) (λ _ ih l=>List.rec (motive:=λ _=>List α) [] (λ _ t _=>ih t) l) n
def AD (n:Nat):List α->List α:=Nat.rec (motive:=λ _=>List α->List α) (λ _=>[]) (λ _ ih l=>List.rec (motive:=λ _=>List α) [] (λ a t _=>a::ih t) l) n
def aks (l:List α):Nat->Option α:=
 List.rec (motive:=λ _=>Nat->Option α) (λ _=>none) (λ a _ ih i=>Nat.rec (motive:=λ _=>Option α) (some a) (λ j _=>ih j) i) l
def lz (l:List α):Nat->Nat:=List.rec (motive:=λ _=>Nat->Nat) (λ n=>n) (λ _ _ ih n=>Nat.rec (motive:=λ _=>Nat) (ih (Nat.succ n)) (λ _ _=>ih (Nat.succ n)) (Nat.succ n)) l
def D5 (vs:List α):Nat->Tr α->Tr α:=
 List.rec (motive:=λ _=>Nat->Tr α->Tr α) (λ _ t=>t) (λ _ _ ih i t=>ih (Nat.succ i) (t.put i none)) vs
def Y3 (vs:List α)(i:Nat)(t:Tr α):Tr α:=match t with
 |.nil=>.nil
 |.node v l r=>D5 vs i (.node v l r)
end
namespace Ov
variable {α:Type}
def akq:Tr α->Ov α
 |.nil=>.nil
 |.node v l r=>.tr v l r
def get:Ov α->Nat->Option α
 |.nil,_=>none
 |.tr v l r,n=>(Tr.node v l r).get n
 |.ch s c o,n=>match o.get n with
  |some v=>some v
  |none=>match c.get (Nat.div n s)with
   |some l=>aks l (Nat.mod n s)
   |none=>none
def OE (s:Nat) (f:Nat):List α->Nat->Tr (List α)->Tr α->Ov α:=
 Nat.rec (motive:=λ _=>List α->Nat->Tr (List α)->Tr α->Ov α) (λ vs i c o=>.ch s c (Tr.bO vs i o))
  (λ _ ih vs i c o=>ih (HZ s vs) (Nat.add i s) (c.put (Nat.div i s) (some (AD s vs))) (Y3 (AD s vs) i o)) f
def bO (vs:List α) (i:Nat) (t:Ov α):Ov α:=match t with
 |.nil=>match Nat.ble 48 (lz vs 0)&&Nat.beq (Nat.mod i (lz vs 0)) 0 with
  |true=>match Nat.ble 1024 (lz vs 0)&&Nat.beq (Nat.mod i 512) 0 with
   |true=>OE 512 (Nat.div (lz vs 0) 512) vs i .nil .nil
   |false=>.ch (lz vs 0) (Tr.put .nil (Nat.div i (lz vs 0)) (some vs)) .nil
  |false=>akq (Tr.bO vs i .nil)
 |.tr v l r=>match Nat.ble 48 (lz vs 0)&&Nat.beq (Nat.mod i (lz vs 0)) 0 with
  |true=>.ch (lz vs 0) (Tr.put .nil (Nat.div i (lz vs 0)) (some vs)) (D5 vs i (.node v l r))
  |false=>akq (Tr.bO vs i (.node v l r))
 |.ch s c o=>match Nat.beq (lz vs 0) s&&Nat.ble 1 s&&Nat.beq (Nat.mod i s) 0 with
  |true=>.ch s (c.put (Nat.div i s) (some vs)) (Y3 vs i o)
  |false=>match Nat.ble s (lz vs 0)&&Nat.ble 1 s&&Nat.beq (Nat.mod i s) 0 with
   |true=>OE s (Nat.div (lz vs 0) s) vs i c o
   |false=>.ch s c (Tr.bO vs i o)
end Ov
inductive AV where
 |int (k:IntKind) (n:Int)
 |bool (b:Bool)
 |str (l:List Nat)
 |ptr (b o:Nat)
 |sl (b o len sz:Nat)
 |agg (cs:List AV) (n:Nat)
 |bo (vs:List AV)
 |oO (t:TypeId) (v:AV)
 |fn (f:Fn) (first cap:List AV)
 |map (b:Nat)
 |ds (cs:List AV) (len sz:Nat)
 |dp (cs:List AV)
 |jd (b:Nat)
 |aV (v:Value)
def atom:Value->Bool
 |.pointer none|.slice none 0 0|.nilIface|.nilFunc|.map none=>true
 |_=>false
def AV.one:AV->Bool
 |.agg _ _|.bo _=>false
 |_=>true
def AV.cells:AV->List AV
 |.agg cs _=>cs
 |v=>[v]
def AV.len:AV->Nat
 |.agg _ n=>n
 |_=>1
inductive lO where
 |normal|exit (id:Nat)|ret|panic (v:AV)
inductive Dm where
 |cG (b:Nat)
 |fn (f:FuncId) (args:List AV)
inductive UM where
 |ret
 |wu (v:AV) (recovered:Bool)
inductive bG where
 |cells (used:Nat) (z base:List AV) (t:Ov AV)
 |map (es:List (AV×AV×Nat)) (clock:Nat)
 |loop (st:LoopState) (jump:lO) (nt:Nat) (F:Tr AV) (ps:List Nat) (a b:Code)
 |jS
 |iter (m:Option Nat) (since:Nat) (seen:List Nat) (last:Nat)
abbrev Fr:=Tr AV
abbrev Hp:=Tr bG
structure G where
 f:Fr->Option AV
inductive bw where
 |fail
 |val (v:AV)
 |new (v:AV) (k:bG)
 |upd (v:AV) (b:Nat) (k:bG)
 |mv (v:AV) (b:Nat) (k:bG)
abbrev Eff:=Fr->Hp->Nat->bw
inductive P9 where
 |fail
 |mk (o:lO) (F:Fr) (H:Hp) (n:Nat) (m:List Dm)
inductive iC where
 |fail
 |mk (v:AV) (H:Hp) (n:Nat)
 |wu (v:AV) (H:Hp) (n:Nat)
inductive amW where
 |fail
 |mk (u:UM) (H:Hp) (n:Nat)
structure Ce where
 call:FuncId->List AV->Hp->Nat->iC
 code:Nat->Code->Fr->Hp->Nat->P9
 dcall:FuncId->List AV->UM->Hp->Nat->amW
structure K where
 f:Ce->Fr->Hp->Nat->List Dm->P9
def gC {α:Type}(n:Nat)(k:Nat->α):α:=Nat.rec (motive:=λ _=>α) (k 0) (λ m _=>k (Nat.succ m)) n
def Yx {α:Type}(i:Int)(k:Int->α):α:=Int.rec (motive:=λ _=>α) (λ m=>gC m λ m=>k (.ofNat m)) (λ m=>gC m λ m=>k (.negSucc m)) i
def amb {α:Type}(c:Bool)(a b:α):α:=Bool.rec (motive:=λ _=>α) b a c
def lR {α β:Type}(o:Option α)(d:β)(k:α->β):β:=Option.rec (motive:=λ _=>β) d k o
def dflt (z:List AV)(i:Nat):Option AV:=
 List.rec (motive:=λ _=>Option AV) none (λ a r _=>List.rec (motive:=λ _=>Option AV) (some a) (λ _ _ _=>z[i % z.length]?) r) z
def nth {α:Type}(l:List α):Nat->Option α:=
 List.rec (motive:=λ _=>Nat->Option α) (λ _=>none) (λ a _ ih i=>Nat.rec (motive:=λ _=>Option α) (some a) (λ j _=>ih j) i) l
def gZ (used:Nat)(z base:List AV)(t:Ov AV)(i:Nat):Option AV:=
 amb (Nat.blt i used) (lR (t.get i) (lR (nth base i) (dflt z i) some) some) none
def vR (used:Nat)(z base:List AV)(t:Ov AV)(o:Nat)(n:Nat):List AV->Option (List AV):=
 Nat.rec (motive:=λ _=>List AV->Option (List AV)) some (λ m ih acc=>lR (gZ used z base t (Nat.add o m)) none (λ v=>ih (v::acc))) n
def rpA (a:AV)(n:Nat):List AV:=Nat.rec (motive:=λ _=>List AV) [] (λ _ ih=>a::ih) n
def yU (z base:List AV):Option AV:=match base with
 |[]=>match z with
  |[a]=>some a
  |_=>none
 |_::_=>none
def hdL (e:List AV):Option AV:=List.rec (motive:=λ _=>Option AV) none (λ a _ _=>some a) e
def ahi (z:List AV):Option AV:=match z with
 |[a]=>some a
 |_=>none
def Au (t:Tr AV)(fill:Option AV)(n:Nat):Nat->List AV->Option (List AV):=
 Nat.rec (motive:=λ _=>Nat->List AV->Option (List AV)) (λ _ _=>some []) (λ _ ih i e=>lR (lR (t.get i) (lR (hdL e) fill some) some) none λ v=>lR (ih (Nat.succ i) (tlO e)) none λ l=>some (v::l)) n
def Jh (fill:Option AV) (base:List AV) (s:Nat) (c:Tr (List AV)) (q:Nat):List AV:=match c.get q with
 |some l=>l
 |none=>match fill with
  |some x=>rpA x s
  |none=>HZ (Nat.mul q s) base
def agl (a b:List AV):List AV:=List.rec (motive:=λ _=>List AV) b (λ x _ ih=>x::ih) a
def HF (fill:Option AV) (base:List AV) (s:Nat) (c:Tr (List AV)) (fuel:Nat):Nat->Nat->Option (List AV):=
 Nat.rec (motive:=λ _=>Nat->Nat->Option (List AV)) (λ _ _=>none) (λ _ ih o n =>
  match Nat.ble n (Nat.sub s (Nat.mod o s))with
  |true=>match AD n (HZ (Nat.mod o s) (Jh fill base s c (Nat.div o s)))with
   |l=>match Nat.beq (lz l 0) n with
    |true=>some l
    |false=>none
  |false=>match AD (Nat.sub s (Nat.mod o s)) (HZ (Nat.mod o s) (Jh fill base s c (Nat.div o s)))with
   |l => match Nat.beq (lz l 0) (Nat.sub s (Nat.mod o s))with
    |true=>match ih (Nat.add o (Nat.sub s (Nat.mod o s))) (Nat.sub n (Nat.sub s (Nat.mod o s)))with
     |some r=>some (agl l r)
     |none=>none
    |false=>none) fuel
def orR (r:Option (List AV))(used:Nat)(z base:List AV)(t:Ov AV)(o n:Nat):Option (List AV):=match r with
 |some l=>some l
 |none=>vR used z base t o n []
def yq (n r:Nat) (e:List AV):Option (List AV):=match AD n (HZ r e)with
 |l=>match Nat.beq (lz l 0) n with
  |true=>some l
  |false=>none
def jN (used:Nat) (z base:List AV) (t:Ov AV) (o n:Nat):Option (List AV):=
 match t with
 |.nil=>match z with
  |[]=>match Nat.beq o 0&&Nat.beq n used with
   |true=>some base
   |false=>match Nat.ble (Nat.add o n) used with
    |true=>orR (yq n o base) used [] base .nil o n
    |false=>none
  |a :: r=>match yU (a::r) base with
   |some x=>match Nat.ble (Nat.add o n) used with
    |true=>some (rpA x n)
    |false=>none
   |none=>vR used (a::r) base .nil o n []
 |.tr x l r=>match Nat.ble (Nat.add o n) used with
  |true=>orR (Au (.node x l r) (ahi z) n o (HZ o base)) used z base (.tr x l r) o n
  |false=>none
 |.ch s c p => match Nat.ble (Nat.add o n) used with
  |true => match Nat.ble 1 s with
   |true=>match p with
    |.nil=>orR (match Nat.beq (Nat.mod o s) 0&&Nat.beq n s with
     |true=>match c.get (Nat.div o s)with
      |some l=>match Nat.beq (lz l 0) n with
       |true=>some l
       |false=>none
      |none=>HF (yU z base) base s c (Nat.add (Nat.div n s) 2) o n
     |false=>HF (yU z base) base s c (Nat.add (Nat.div n s) 2) o n) used z base (.ch s c .nil) o n
    |.node v l r=>orR (match Nat.ble (Nat.add (Nat.mod o s) n) s with
     |true=>match c.get (Nat.div o s)with
      |some e=>Au (.node v l r) none n o (HZ (Nat.mod o s) e)
      |none=>none
     |false=>none) used z base (.ch s c (.node v l r)) o n
   |false=>vR used z base (.ch s c p) o n []
  |false=>none
def patch:List AV->Nat->List AV->Option (List AV)
 |cs,_,[]=>some cs
 |[],_,_::_=>none
 |_::cs,0,v::vs=>(patch cs 0 vs).map (v::·)
 |c::cs,o+1,v::vs=>(patch cs o (v::vs)).map (c::·)
def kC (F:Fr):List (Nat×Nat×G)->List AV->Option (List AV)
 |[],cs=>some cs
 |(o, s,x)::r,cs=>match x.f F with
  |some v=>match Nat.beq v.len s&&Nat.blt 0 s with
   |true=>match patch cs o v.cells with
    |some cs'=>kC F r cs'
    |none=>none
   |false=>none
  |none=>none
def evs (F:Fr):List G->Option (List AV)
 |[]=>some []
 |x :: r=>match x.f F with
  |some a=>match evs F r with
   |some l=>some (a::l)
   |none=>none
  |none=>none
def br:List AV->Bool
 |[]=>true
 |v::r=>v.one&&br r
def rep (z:List AV):Nat->List AV
 |0=>[]
 |n+1=>z++rep z n
def fk:List Nat->List Nat->Bool
 |[],[]=>true
 |a::x,b::y=>match Nat.beq a b with
  |true=>fk x y
  |false=>false
 |_,_=>false
def jL:List Nat->List Nat->Bool
 |_,[]=>false
 |[],_::_=>true
 |a::x,b::y=>Nat.blt a b||(Nat.beq a b&&jL x y)
def eC {α:Type}(l:List α):Nat->Nat:=List.rec (motive:=λ _=>Nat->Nat) (λ n=>n) (λ _ _ ih n=>gC (Nat.succ n) ih) l
def bytesOf:List AV->Option (List Nat)
 |[]=>some []
 |.int .u8 n::r=>(bytesOf r).map (n.toNat % 256::·)
 |_::_=>none
def Vx (l:List Nat):List AV:=l.map λ n=>.int .u8 (Int.ofNat n)
inductive LK where
 |i|s|b
def dY:LK->AV->AV->Option Bool
 |.i,.int j a,.int k b=>if j=k then some (a == b)else none
 |.b,.bool a,.bool b=>some (a == b)
 |.s,.str a,.str b=>some (fk a b)
 |_,_,_=>none
def bP:List LK->List AV->List AV->Option Bool
 |[],[],[]=>some true
 |q::qs,a::x,b::y=>match dY q a b with
  |some true=>bP qs x y
  |some false=>some false
  |none=>none
 |_,_,_=>none
inductive EqK where
 |num|bool|ptr|slice|map|func|iface|r6
def jq (q:EqK) (x y:AV):Option Bool:=
 match q,x,y with
 |.num,.int j a,.int k b=>if j=k then some (a == b)else none
 |.num,.str a,.str b=>some (fk a b)
 |.bool,.bool a,.bool b=>some (a == b)
 |.ptr,.ptr a o,.ptr b p=>match Nat.beq a b with
  |true=>some (Nat.beq o p)
  |false=>none
 |.ptr,.ptr _ _,.aV (.pointer none)=>some false
 |.ptr,.aV (.pointer none),.ptr _ _=>some false
 |.ptr,.aV (.pointer none),.aV (.pointer none)=>some true
 |.slice,.sl ..,.aV (.slice none _ _)=>some false
 |.slice,.ds _ (_+1) _,.aV (.slice none _ _)=>some false
 |.slice,.ds _ 0 0,.aV (.slice none _ _)=>some false
 |.slice,.aV (.slice none _ _),.sl ..=>some false
 |.slice,.aV (.slice none _ _),.ds _ (_+1) _=>some false
 |.slice,.aV (.slice none _ _),.ds _ 0 0=>some false
 |.slice,.aV (.slice none _ _),.aV (.slice none _ _)=>some true
 |.map,.map _,.aV (.map none)=>some false
 |.map,.aV (.map none),.map _=>some false
 |.map,.aV (.map none),.aV (.map none)=>some true
 |.func,.fn ..,.aV .nilFunc=>some false
 |.func,.aV .nilFunc,.fn ..=>some false
 |.func,.aV .nilFunc,.aV .nilFunc=>some true
 |.iface,.oO _ _,.aV .nilIface=>some false
 |.iface,.aV .nilIface,.oO _ _=>some false
 |.r6,.oO _ _,.aV .nilIface=>some false
 |.r6,.aV .nilIface,.oO _ _=>some false
 |.r6,.aV .nilIface,.aV .nilIface=>some true
 |_,_,_=>none
def nat?:AV->Option Nat
 |.int _ (.ofNat n)=>some n
 |_=>none
def bnd (d:Nat):Option AV->Option Nat
 |none=>some d
 |some v=>nat? v
def vd (len:Nat) (lo hi mx:Option AV):Option (Nat×Nat):=
 match bnd len mx with
 |some m=>match bnd len hi with
  |some h=>match bnd 0 lo with
   |some l=>match Nat.ble l h&&Nat.ble h len&&Nat.ble h m&&Nat.ble m len with
    |true=>some (l,h)
    |false=>none
   |none=>none
  |none=>none
 |none=>none
def vM (F:Fr):Option G->Option (Option AV)
 |none=>some none
 |some x=>(x.f F).map some
def big:Nat:=1073741824
def aX (H:Hp) (sz:Nat):AV->Option (List AV)
 |.sl b o len s=>bif Nat.beq s sz then (match H.get b with
  |some (.cells u z bs t)=>jN u z bs t o (len*sz)
  |_=>none)else none
 |.ds cs len s=>bif Nat.beq s sz||Nat.beq len 0 then some cs else none
 |.aV (.slice none _ _)=>some []
 |.str l=>bif Nat.beq sz 1 then some (Vx l)else none
 |_=>none
def sliceLen:AV->Option Nat
 |.sl _ _ len _=>some len
 |.ds _ len _=>some len
 |.aV (.slice none _ _)=>some 0
 |.str l=>some (eC l 0)
 |_=>none
def Hh (k:IntKind):Int->List AV->Option AV
 |a,[]=>some (.int k a)
 |a,.int j b::r=>if k=j then Hh k (if b<a then b else a) r else none
 |_,_=>none
def Uj:List AV->Option AV
 |.int k a::r=>Hh k a r
 |_=>none
def Ul (k:IntKind):Int->List AV->Option AV
 |a,[]=>some (.int k a)
 |a,.int j b::r=>if k=j then Ul k (if b>a then b else a) r else none
 |_,_=>none
def Jz:List AV->Option AV
 |.int k a::r=>Ul k a r
 |_=>none
def findKey (q:LK) (k:AV):List (AV×AV×Nat)->Option (Option AV)
 |[]=>some none
 |e::r=>match dY q k e.1 with
  |some true=>some (some e.2.1)
  |some false=>findKey q k r
  |none=>none
def iM (q:LK) (k v:AV):List (AV×AV×Nat)->Option (Option (List (AV×AV×Nat)))
 |[]=>some none
 |e :: r=>match dY q k e.1 with
  |some true=>some (some ((k,v,e.2.2)::r))
  |some false=>match iM q k v r with
   |some (some r')=>some (some (e::r'))
   |some none=>some none
   |none=>none
  |none=>none
def eL (x:G):Eff:=λ F _ _=>match x.f F with
 |some v=>.val v
 |none=>.fail
def y5 (c a b:G):Eff:=λ F _ _=>match c.f F with
 |some (.bool true)=>eL a F .nil 0
 |some (.bool false)=>eL b F .nil 0
 |_=>.fail
def au (z:List AV)(len:Nat):Eff:=λ _ _ n=>.new (.ptr n 0) (.cells len [] z .nil)
def HV (x:G):Eff:=λ F _ n=>match x.f F with
 |some v=>.new (.ptr n 0) (.cells v.len [] v.cells .nil)
 |none=>.fail
def aI (z:List AV)(k:Nat)(ps:List (Nat×Nat×G)):Eff:=λ F _ _=>match kC F ps z with
 |some cs=>.val (.agg cs k)
 |none=>.fail
def aO (z:List AV)(k sz:Nat)(ps:List (Nat×Nat×G)):Eff:=λ F _ n=>match kC F ps (rep z k)with
 |some cs=>.new (.sl n 0 k sz) (.cells (k*sz) [] cs .nil)
 |none=>.fail
def cE:AV->Hp->bw
 |.ptr b o,H=>match H.get b with
  |some (.cells u z bs t)=>match gZ u z bs t o with
   |some v=>.val v
   |none=>.fail
  |_=>.fail
 |.dp (v::_),_=>.val v
 |_,_=>.fail
def u0 (x:G):Eff:=λ F H _=>match x.f F with
 |some v=>cE v H
 |none=>.fail
def eD (k:Nat):AV->Hp->bw
 |.ptr b o,H=>match H.get b with
  |some (.cells u z bs t)=>match jN u z bs t o k with
   |some l=>.val (.agg l k)
   |none=>.fail
  |_=>.fail
 |.dp cs,_=>match Nat.ble k cs.length with
  |true=>.val (.agg (cs.take k) k)
  |false=>.fail
 |_,_=>.fail
def iS (k:Nat)(x:G):Eff:=λ F H _=>match x.f F with
 |some v=>eD k v H
 |none=>.fail
def mN (u:Nat) (z bs:List AV) (t:Ov AV) (vs:List AV) (o:Nat):bG:=match t with
 |.nil=>match z with
  |[]=>match Nat.ble u 64 with
   |true=>match patch bs o vs with
    |some bs'=>.cells u [] bs' .nil
    |none=>.cells u [] bs (Ov.bO vs o .nil)
   |false=>.cells u [] bs (Ov.bO vs o .nil)
  |a::r=>.cells u (a::r) bs (Ov.bO vs o .nil)
 |.tr x l r=>.cells u z bs (Ov.bO vs o (.tr x l r))
 |.ch s c p=>.cells u z bs (Ov.bO vs o (.ch s c p))
def mF (k:Nat):AV->AV->Hp->bw
 |.ptr b o,v,H=>match H.get b with
  |some (.cells u z bs t)=>match Nat.beq v.len k&&Nat.ble (o+k) u&&br v.cells with
   |true=>.upd (.bo []) b (mN u z bs t v.cells o)
   |false=>.fail
  |_=>.fail
 |_,_,_=>.fail
def dz (k:Nat) (x v:G):Eff:=λ F H _=>match x.f F with
 |some a=>match v.f F with
  |some v=>mF k a v H
  |none=>.fail
 |none=>.fail
def Cb:AV->bw
 |.ptr b o=>.val (.ptr b o)
 |.fn (.func f) a b=>.val (.fn (.func f) a b)
 |.dp cs=>.val (.dp cs)
 |.map b=>.val (.map b)
 |.jd b=>.val (.jd b)
 |_=>.fail
def aY (x:G):Eff:=λ F _ _=>match x.f F with
 |some v=>Cb v
 |none=>.fail
def e1 (c:AV->bw)(x:G):Eff:=λ F _ _=>match x.f F with
 |some v=>c v
 |none=>.fail
def e2 (c:AV->AV->bw) (x y:G):Eff:=λ F _ _=>match x.f F with
 |some a=>match y.f F with
  |some b=>c a b
  |none=>.fail
 |none=>.fail
def kY (k:IntKind)(i:Int):bw:=Yx i λ r=>.val (.int k r)
def uQ (c:IntKind->Int->Int->bw):AV->AV->bw
 |.int k a,.int j b=>if k=j then c k a b else .fail
 |_,_=>.fail
def Ak:AV->AV->bw
 |.int k a,.int j b=>if k=j then kY k (k.wrap (a+b))else .fail
 |.str a,.str b=>match Nat.ble (eC a 0+eC b 0) big with
  |true=>.val (.str (a++b))
  |false=>.fail
 |_,_=>.fail
def bS (op:BinOp)(k:IntKind)(a b:Int):bw:=
 match op with
 |.sub=>kY k (k.wrap (a - b))
 |.mul=>kY k (k.wrap (a*b))
 |.quo=>if b=0 then .fail else kY k (k.wrap (a.tdiv b))
 |.rem=>if b=0 then .fail else kY k (a.tmod b)
 |.and=>kY k (k.wrap (BitVec.ofInt k.bits a &&& BitVec.ofInt k.bits b).toNat)
 |.or=>kY k (k.wrap (BitVec.ofInt k.bits a ||| BitVec.ofInt k.bits b).toNat)
 |.xor=>kY k (k.wrap (BitVec.ofInt k.bits a ^^^ BitVec.ofInt k.bits b).toNat)
 |.andNot=>kY k (k.wrap (BitVec.ofInt k.bits a &&& ~~~ BitVec.ofInt k.bits b).toNat)
 |_=>.fail
def rp (op:BinOp):AV->AV->bw
 |.int k a,.int j b=>if k=j then (match op with
  |.lss=>.val (.bool (decide (a<b)))
  |.leq=>.val (.bool (decide (a<=b)))
  |.gtr=>.val (.bool (decide (a>b)))
  |.geq=>.val (.bool (decide (a>=b)))
  |_=>.fail)else .fail
 |.str a,.str b=>match op with
  |.lss=>.val (.bool (jL a b))
  |.leq=>.val (.bool (jL a b||fk a b))
  |.gtr=>.val (.bool (!(jL a b||fk a b)))
  |.geq=>.val (.bool (!jL a b))
  |_=>.fail
 |_,_=>.fail
def eR (op:BinOp):AV->AV->bw
 |.int k a,.int _ (.ofNat b)=>match op with
  |.shl=>kY k (k.wrap (a*2 ^ (min b k.bits)))
  |.shr=>kY k (a.fdiv (2 ^ (min b k.bits)))
  |_=>.fail
 |_,_=>.fail
def bR (op:BinOp):AV->AV->bw:=match op with
 |.add=>Ak
 |.lss|.leq|.gtr|.geq=>rp op
 |.shl|.shr=>eR op
 |_=>uQ (bS op)
def kT (neg:Bool)(q:EqK)(a b:AV):bw:=match jq q a b with
 |some r=>.val (.bool (neg != r))
 |none=>.fail
def og (neg:Bool) (ks:List LK):AV->AV->bw
 |.agg a n,.agg b m=>match Nat.beq n ks.length&&Nat.beq m ks.length with
  |true=>match bP ks a b with
   |some r=>.val (.bool (neg != r))
   |none=>.fail
  |false=>.fail
 |_,_=>.fail
def cUn (op:UnOp):AV->bw
 |.bool b=>match op with
  |.not=>.val (.bool (!b))
  |_=>.fail
 |.int k a=>match op with
  |.neg=>kY k (k.wrap (0 - a))
  |.xor=>kY k (k.wrap (BitVec.ofInt k.bits (if k.signed then -1 else k.max) ^^^ BitVec.ofInt k.bits a).toNat)
  |_=>.fail
 |_=>.fail
def bV (k:IntKind):AV->bw
 |.int _ a=>kY k (k.wrap a)
 |_=>.fail
def UO (x:G):Eff:=λ F _ n=>match x.f F with
 |some (.str l)=>.new (.sl n 0 (eC l 0) 1) (.cells (eC l 0) [] (Vx l) .nil)
 |_=>.fail
def KB:AV->Hp->bw
 |.str _,_=>.fail
 |v,H=>match aX H 1 v with
  |some l=>match bytesOf l with
   |some bs=>.val (.str bs)
   |none=>.fail
  |none=>.fail
def J1 (x:G):Eff:=λ F H _=>match x.f F with
 |some v=>KB v H
 |none=>.fail
def jr (f:Fn) (a b:List G):Eff:=λ F _ _=>match evs F a with
 |some a=>match evs F b with
  |some b=>.val (.fn f a b)
  |none=>.fail
 |none=>.fail
def lJ:Eff:=λ _ _ n=>.new (.map n) (.map [] 0)
def PU (z:List AV) (sz gq n:Nat):AV->AV->bw
 |.int _ (.ofNat l),.int _ (.ofNat c)=>match Nat.ble l c&&Nat.ble c big&&Nat.ble (gq*c) 281474976710656 with
  |true=>.new (.sl n 0 l sz) (.cells (c*sz) z [] .nil)
  |false=>.fail
 |_,_=>.fail
def BL (z:List AV) (sz gq:Nat) (x y:G):Eff:=λ F _ n=>match x.f F with
 |some a=>match y.f F with
  |some b=>PU z sz gq n a b
  |none=>.fail
 |none=>.fail
def ja (sz:Nat) (lo hi mx:Option AV):AV->bw
 |.sl b o len s=>match vd len lo hi mx with
  |some (l,h)=>match Nat.beq s sz with
   |true=>gC (o+l*sz) λ o'=>gC (h - l) λ len'=>.val (.sl b o' len' sz)
   |false=>.fail
  |none=>.fail
 |.ds cs len s=>match vd len lo hi mx with
  |some (l,h)=>match Nat.beq s sz with
   |true=>.val (.ds ((cs.drop (l*sz)).take ((h - l)*sz)) (h - l) sz)
   |false=>.fail
  |none=>.fail
 |.aV (.slice none 0 0)=>match vd 0 lo hi mx with
  |some _=>.val (.aV (.slice none 0 0))
  |none=>.fail
 |_=>.fail
def wH (c:Option AV->Option AV->Option AV->AV->bw) (x:G) (lo hi mx:Option G):Eff:=λ F _ _=>match vM F lo with
 |some lo=>match vM F hi with
  |some hi=>match vM F mx with
   |some mx=>match x.f F with
    |some v=>c lo hi mx v
    |none=>.fail
   |none=>.fail
  |none=>.fail
 |none=>.fail
def zj (k:Nat):AV->bw
 |.ptr b o=>gC (o+k) λ o'=>.val (.ptr b o')
 |.dp cs=>.val (.dp (cs.drop k))
 |_=>.fail
def PY (o:Nat):AV->bw
 |.agg cs _=>match nth cs o with
  |some v=>.val v
  |none=>.fail
 |_=>.fail
def PX (o k:Nat):AV->bw
 |.agg cs n=>match Nat.ble (o+k) n with
  |true=>.val (.agg ((cs.drop o).take k) k)
  |false=>.fail
 |_=>.fail
def cK (sz:Nat):AV->AV->bw
 |.sl b o len s,.int _ (.ofNat i)=>match Nat.blt i len&&Nat.beq s sz with
  |true=>gC (o+i*sz) λ o'=>.val (.ptr b o')
  |false=>.fail
 |.ds cs len s,.int _ (.ofNat i)=>match Nat.blt i len&&Nat.beq s sz with
  |true=>.val (.dp (cs.drop (i*sz)))
  |false=>.fail
 |_,_=>.fail
def gJ (k sz:Nat):AV->AV->bw
 |.ptr b o,.int _ (.ofNat i)=>match Nat.blt i k with
  |true=>gC (o+i*sz) λ o'=>.val (.ptr b o')
  |false=>.fail
 |.dp cs,.int _ (.ofNat i)=>match Nat.blt i k with
  |true=>.val (.dp (cs.drop (i*sz)))
  |false=>.fail
 |_,_=>.fail
def Y6 (n sz:Nat) (ag:Bool) (v:AV):AV->bw
 |.int _ (.ofNat i)=>match Nat.blt i n with
  |true=>match ag with
   |true=>gC (i*sz) λ o=>PX o sz v
   |false=>gC (i*sz) λ o=>PY o v
  |false=>.fail
 |_=>.fail
def oZ:AV->AV->bw
 |.str l,.int _ (.ofNat i)=>match nth l i with
  |some c=>.val (.int .u8 (Int.ofNat c))
  |none=>.fail
 |_,_=>.fail
def kS (i:Nat):AV->bw
 |.bo vs=>match nth vs i with
  |some v=>.val v
  |none=>.fail
 |_=>.fail
def js:AV->bw
 |.str l=>.val (.int .i64 (Int.ofNat (eC l 0)))
 |_=>.fail
def bm:AV->bw
 |.sl _ _ len _=>.val (.int .i64 (Int.ofNat len))
 |.ds _ len _=>.val (.int .i64 (Int.ofNat len))
 |.aV (.slice none _ len)=>match len with
  |0=>.val (.int .i64 0)
  |_=>.fail
 |_=>.fail
def cmpL:List Nat->List Nat->Int
 |[],[]=>0
 |[],_::_ => -1
 |_::_,[]=>1
 |a :: x,b::y=>match Nat.beq a b with
  |true=>cmpL x y
  |false=>match Nat.blt a b with
   |true => -1
   |false=>1
def Ig:AV->AV->bw
 |.str a,.str b=>.val (.int .i64 (cmpL a b))
 |_,_=>.fail
def Ih (sz n b o len m:Nat) (new:List AV):Option bG->bw
 |some (.cells u z bs t)=>match Nat.beq o 0&&Nat.ble (len*sz) u with
  |true=>gC (len+m) λ k=>gC (k*sz) λ u'=>.mv (.sl n 0 k sz) b (.cells u' z bs (Ov.bO new (len*sz) t))
  |false=>match jN u z bs t o (len*sz)with
   |some old=>.mv (.sl n 0 (len+m) sz) b (.cells ((len+m)*sz) [] (old++new) .nil)
   |none=>.fail
 |_=>.fail
def oR (sz gq n m:Nat) (new:List AV) (H:Hp):AV->bw
 |.sl b o len q=>match Nat.beq m 0 with
  |true=>.val (.sl b o len q)
  |false=>match Nat.beq q sz&&Nat.blt 0 sz&&Nat.ble (len+m) big&&Nat.ble gq 4096&&br new with
   |true=>Ih sz n b o len m new (H.get b)
   |false=>.fail
 |.aV (.slice none 0 0)=>match Nat.beq m 0 with
  |true=>.val (.aV (.slice none 0 0))
  |false=>match Nat.blt 0 sz&&Nat.ble m big&&Nat.ble gq 4096&&br new with
   |true=>.new (.sl n 0 m sz) (.cells (m*sz) [] new .nil)
   |false=>.fail
 |_=>.fail
def jh (sz gq n:Nat) (s x:AV) (H:Hp):bw:=match aX H sz x with
 |some new=>match sliceLen x with
  |some m=>oR sz gq n m new H s
  |none=>.fail
 |none=>.fail
def dG (sz gq:Nat) (s x:G):Eff:=λ F H n=>match s.f F with
 |some s=>match x.f F with
  |some x=>jh sz gq n s x H
  |none=>.fail
 |none=>.fail
def y6 (c:List AV->Option AV) (xs:List G):Eff:=λ F _ _=>match evs F xs with
 |some l=>match c l with
  |some v=>.val v
  |none=>.fail
 |none=>.fail
def isKey:LK->AV->Bool
 |.i,.int _ _=>true
 |.s,.str _=>true
 |_,_=>false
def fo (q:LK) (z:AV) (ok:Bool) (m k:AV) (H:Hp):bw:=match m with
 |.map b=>match H.get b with
  |some (.map es _)=>match isKey q k with
   |true=>match findKey q k es with
    |some (some v)=>.val (bif ok then .bo [v,.bool true]else v)
    |some none=>.val (bif ok then .bo [z,.bool false]else z)
    |none=>.fail
   |false=>.fail
  |_=>.fail
 |_=>.fail
def jF (q:LK) (z:AV) (ok:Bool) (x i:G):Eff:=λ F H _=>match x.f F with
 |some m=>match i.f F with
  |some k=>fo q z ok m k H
  |none=>.fail
 |none=>.fail
def rE (q:LK) (m k v:AV) (H:Hp):bw:=match m with
 |.map b=>match H.get b with
  |some (.map es c)=>match isKey q k with
   |true=>match iM q k v es with
    |some (some es')=>.upd (.bo []) b (.map es' c)
    |some none=>.upd (.bo []) b (.map (es++[(k,v,c)]) (c+1))
    |none=>.fail
   |false=>.fail
  |_=>.fail
 |_=>.fail
def lI (q:LK) (m k v:G):Eff:=λ F H _=>match m.f F with
 |some m=>match k.f F with
  |some k=>match v.f F with
   |some v=>rE q m k v H
   |none=>.fail
  |none=>.fail
 |none=>.fail
end Go.Abs
namespace Go.Abs
open List
def alg:Nat->List (IntKind×Int):=λ _=>[]
def aqI:Nat->Option (Array Value):=λ _=>none
structure Pd where
 f:AV->Fr->Fr
def opK (pd:Pd) (e:Eff) (next:K):K:=.mk <| λ ce F H n m =>
 bw.rec (motive:=λ _=>P9) .fail
  (λ v=>next.f ce (pd.f v F) H n m)
  (λ v k=>next.f ce (pd.f v F) (H.put n (some k)) (Nat.succ n) m)
  (λ v b k=>next.f ce (pd.f v F) (H.put b (some k)) n m)
  (λ v b k=>next.f ce (pd.f v F) ((H.put b none).put n (some k)) (Nat.succ n) m) (e F H n)
def XE (pd:Pd)(next:K):K:=.mk <| λ ce F H n m=>next.f ce (pd.f (.bo []) F) H n m
def su (g:G)(want:Bool)(yes no:K):K:=.mk <| λ ce F H n m=>match g.f F with
 |some (.bool b)=>bif b == want then yes.f ce F H n m else no.f ce F H n m
 |some _=>no.f ce F H n m
 |none=>.fail
def HU:K:=.mk <| λ _ F H n m=>.mk .normal F H n m
def Jk (a b:K):K:=.mk <| λ ce F H n m=>match a.f ce F H n m with
 |.mk .normal F' H' n' m'=>b.f ce F' H' n' m'
 |r=>r
def BN (g:G)(a b:K):K:=.mk <| λ ce F H n m=>match g.f F with
 |some (.bool true)=>a.f ce F H n m
 |some (.bool false)=>b.f ce F H n m
 |_=>.fail
def ve (i:Nat)(b:K):K:=.mk <| λ ce F H n m=>match b.f ce F H n m with
 |.mk (.exit j) F' H' n' m'=>bif Nat.beq i j then .mk .normal F' H' n' m' else .mk (.exit j) F' H' n' m'
 |r=>r
def XU (b:K) (ce:Ce) (k:Nat):Fr->Hp->Nat->List Dm->P9:=
 Nat.rec (motive:=λ _=>Fr->Hp->Nat->List Dm->P9) (λ _ _ _ _=>.fail) (λ _ ih F H n m=>match b.f ce F H n m with
  |.mk .normal F' H' n' m'=>ih F' H' n' m'
  |r=>r) k
def Hk (b:K):K:=.mk <| λ ce F H n m=>XU b ce big F H n m
def Pz (i:Nat):K:=.mk <| λ _ F H n m=>.mk (.exit i) F H n m
def aew:K:=.mk <| λ _ F H n m=>.mk .ret F H n m
def jQ:K:=.mk <| λ _ _ _ _ _=>.fail
def mU (nt:Nat):List Nat->List AV->Fr->Option Fr
 |[],[],F=>some F
 |p::ps,v::vs,F=>match Nat.blt p nt with
  |true=>mU nt ps vs (F.put p (some v))
  |false=>none
 |_,_,_=>none
def Gp (ce:Ce) (q:Nat) (args:List AV) (H:Hp) (n:Nat):iC:=match H.get q with
 |some (.loop _ _ nt F0 ps a b)=>match mU nt ps args F0 with
  |some F1 => match ce.code nt a F1 H n with
   |.mk .normal F2 H2 n2 []=>match H2.get q with
    |some (.loop .ready j2 Bl G2 ps2 a2 b2)=>match ce.code nt b F2 (H2.put q (some (.loop .busy j2 Bl G2 ps2 a2 b2))) n2 with
     |.mk j _ H3 n3 _=>match H3.get q with
      |some (.loop _ _ IY G3 vJ a3 b3)=>match j with
       |.normal=>.mk (.bool true) (H3.put q (some (.loop .ready .normal IY G3 vJ a3 b3))) n3
       |.exit i=>.mk (.bool false) (H3.put q (some (.loop .done (.exit i) IY G3 vJ a3 b3))) n3
       |.ret=>.mk (.bool false) (H3.put q (some (.loop .done .ret IY G3 vJ a3 b3))) n3
       |.panic _=>.fail
      |_=>.fail
     |_=>.fail
    |_=>.fail
   |_=>.fail
  |none=>.fail
 |_=>.fail
def BW (pd:Pd) (g:G) (args:List G) (next:K):K:=.mk <| λ ce F H n m=>match g.f F with
 |some (.fn (.func f) first cap)=>match evs F args with
  |some as=>match ce.call f (first++(as++cap)) H n with
   |.mk v H' n'=>next.f ce (pd.f v F) H' n' m
   |.wu v H' n'=>.mk (.panic v) F H' n' m
   |.fail=>.fail
  |none=>.fail
 |some (.jd q)=>match evs F args with
  |some as=>match Gp ce q as H n with
   |.mk v H' n'=>next.f ce (pd.f v F) H' n' m
   |_=>.fail
  |none=>.fail
 |_=>.fail
def C4 (nt:Nat) (g:G) (ps:List Nat) (a b:Code):K:=.mk <| λ ce F H n m=>match g.f F with
 |some (.fn (.func f) first cap) =>
  match ce.call f (first++(.jd n::cap)) ((H.put (Nat.succ n) (some .jS)).put n (some (.loop .ready .normal nt F ps a b))) (Nat.succ (Nat.succ n))with
  |.mk _ H' n'=>match H'.get n with
   |some (.loop .busy _ _ _ _ _ _)=>.fail
   |some (.loop _ (.panic _) _ _ _ _ _)=>.fail
   |some (.loop _ j _ _ _ _ _)=>.mk j F (H'.put n none) n' (.cG (Nat.succ n)::m)
   |_=>.fail
  |_=>.fail
 |_=>.fail
def vf:Value->Option AV
 |.int k n=>some (.int k n)
 |.bool b=>some (.bool b)
 |.string s=>some (.str (s.data.toList.map UInt8.toNat))
 |v=>if atom v then some (.aV v)else none
def mc:List Value->Option (List AV)
 |[]=>some []
 |v :: r=>match vf v with
  |some a=>match mc r with
   |some l=>some (a::l)
   |none=>none
  |none=>none
def U0:Value->Option AV
 |.agg cs=>(mc cs.toList).map λ l=>.agg l (eC l 0)
 |.tuple ⟨[]⟩=>some (.bo [])
 |.iface t v=>(vf v).map (.oO t)
 |v=>vf v
def aQ (v:AV):G:=⟨λ _=>some v⟩
def aA (t:Nat):G:=⟨(Tr.afO (Nat.succ t) t).f⟩
def DL:List (IntKind×Int)->List AV
 |[]=>[]
 |(k,n)::r=>.int k n::DL r
def gAv (g:Nat):Option (List AV):=match alg g with
 |[]=>none
 |a::r=>some (DL (a::r))
def dD:Operand->Option G
 |.tmp t=>some (aA t)
 |.const v=>(U0 v).map aQ
 |.func f=>some (aQ (.fn (.func f) [] []))
 |.global g=>match gAv g with
  |some l=>some (aQ (.dp l))
  |none=>none
def mn:List Operand->Option (List G)
 |[]=>some []
 |x :: r=>match dD x with
  |some a=>match mn r with
   |some l=>some (a::l)
   |none=>none
  |none=>none
def pN:Option Operand->Option (Option G)
 |none=>some none
 |some x=>(dD x).map some
def cu (P:Program)(t:TypeId):Option Nat:=(P.info? t).map (·.size)
def vc (P:Program)(t:TypeId):Option Nat:=(P.info? t).map (·.bytes)
def oJ (P:Program) (t:TypeId):Option (List AV):=match P.info? t with
 |some i=>match i.zero with
  |some z=>mc z.cells.toList
  |none=>none
 |none=>none
def hU (P:Program)(t:TypeId):Option Bool:=
 match P.underlying t with
 |some (.struct _)|some (.array _ _)=>some true
 |some _=>some false
 |none=>none
def tP (P:Program) (r:TypeId->Option (List LK)):List Field->Nat->Option (List LK)
 |[],_=>some []
 | f :: fs, s => if f.name = "_" then none else if f.offset = s then (match r f.type with
  |some k=>if cu P f.type=some k.length then (match tP P r fs (s+k.length)with
   |some l=>some (k++l)
   |none=>none)else none
  |none=>none)else none
def pD (n:Nat)(k:List LK):List LK:=match n with
 |0=>[]
 |n+1=>k++pD n k
def leaves (P:Program):Nat->TypeId->Option (List LK)
 |0,_=>none
 |d + 1,t=>match P.underlying t with
  |some .bool=>some [.b]
  |some (.int _)=>some [.i]
  |some .string=>some [.s]
  |some (.struct fs)=>if P.stoodInHeld t then none else tP P (leaves P d) fs.toList 0
  |some (.array n e)=>match leaves P d e with
   |some k=>if cu P e=some k.length then some (pD n k)else none
   |none=>none
  |_=>none
def tQ:Operand->Bool
 |.const _=>true
 |_=>false
def yZ (P:Program) (aV:Bool) (t:TypeId):Option EqK:=match P.underlying t with
 |some (.int _)=>some .num
 |some .string=>some .num
 |some .bool=>some .bool
 |some (.pointer e)=>match cu P e with
  |some (_+1)=>some .ptr
  |_=>none
 |some (.slice _)=>some .slice
 |some (.map _ _)=>some .map
 |some (.func _ _ _)=>some .func
 |some (.interface _)=>some (if aV then .r6 else .iface)
 |_=>none
def u6 (P:Program) (s:TypeId) (f:Nat):Option (Nat×TypeId):=match P.underlying s with
 |some (.struct fs)=>match fs[f]? with
  |some fd=>match cu P fd.type with
   |some (_+1)=>some (fd.offset,fd.type)
   |_=>none
  |none=>none
 |_=>none
def vV (P:Program)(t:TypeId):Option TypeId:=match P.underlying t with
 |some (.slice e)=>some e
 |_=>none
def gi (place:Nat->Option (Nat×Nat)):List (Nat×Operand)->Option (List (Nat×Nat×G))
 |[]=>some []
 |(i, x)::r=>match place i with
  |some (o,s)=>match dD x with
   |some a=>match gi place r with
    |some l=>some ((o,s,a)::l)
    |none=>none
   |none=>none
  |none=>none
def isEq:BinOp->Bool
 |.eql=>true
 |.neq=>true
 |_=>false
def lW:BinOp->Bool
 |.neq=>true
 |_=>false
def DZ (P : Program) (op:BinOp) (t:TypeId) (x y:Operand):Option Eff:=
 match dD x with
 |some a=>match dD y with
  |some b=>match isEq op with
   |true=>match P.underlying t with
    |some (.struct _)=>match leaves P 20 t with
     |some k=>if P.eqGuardType P.depth t then none else some (e2 (og (lW op) k) a b)
     |none=>none
    |some (.array _ _)=>match leaves P 20 t with
     |some k=>if P.eqGuardType P.depth t then none else some (e2 (og (lW op) k) a b)
     |none=>none
    |_=>match yZ P (tQ x||tQ y) t with
     |some q=>some (e2 (kT (lW op) q) a b)
     |none=>none
   |false=>some (e2 (bR op) a b)
  |none=>none
 |none=>none
def zg (P:Program) (s d:TypeId) (x:Operand):Option Eff:=do
 let a <-dD x
 match P.underlying s,P.underlying d with
 |some (.int _),some (.int k)=>some (e1 (bV k) a)
 |some .string,some (.slice e)=>match P.underlying e with
  |some (.int .u8)=>some (UO a)
  |_=>none
 |some (.slice e),some .string=>match P.underlying e with
  |some (.int .u8)=>some (J1 a)
  |_=>none
 |_,_=>none
def Uu (P:Program)(k:TypeId):Option LK:=match P.underlying k with
 |some (.int _)=>some .i
 |some .string=>some .s
 |_=>none
def pY (P:Program) (c:Call):Builtin->Option Eff
 |.len=>do
  let t <-c.argTypes[0]?
  let x <-c.args[0]?
  match P.underlying t with
  |some .string=>some (e1 js (<-dD x))
  |some (.slice _)=>some (e1 bm (<-dD x))
  |_=>none
 |.append=>do
  let t <-c.argTypes[0]?
  let u <-c.argTypes[1]?
  let s <-c.args[0]?
  let x <-c.args[1]?
  let e <-vV P t
  match P.underlying u with
  |some (.int _)|none=>none
  |_ => match oJ P e with
   |some z=>match cu P e with
    |some sz=>if z.length=sz then do some (dG sz (<-vc P e) (<-dD s) (<-dD x))else none
    |none=>none
   |none=>none
 |.min=>do some (y6 Uj (<-mn c.args.toList))
 |.max=>do some (y6 Jz (<-mn c.args.toList))
 |_=>none
def DY (P:Program) (f:FuncId) (args:List Operand):Option Eff:=match P.funcs[f]? with
 |some fn=>match fn.body with
  | none => if fn.name = "internal/bytealg.abigen_runtime_cmpstring" ∧ fn.origin = "" then (match args with
   |[x,y]=>do some (e2 Ig (<-dD x) (<-dD y))
   |_=>none)else none
  |some _=>none
 |none=>none
def eb (P:Program) (o:Oper):Option Eff:=
 match o.op with
 |.move x|.assign x=>(dD x).map eL
 |.pick c a b=>do some (y5 (<-dD c) (<-dD a) (<-dD b))
 |.alloc e=>(oJ P e).map λ z=>au z (eC z 0)
 |.box _ x=>(dD x).map HV
 |.build t ps=>do
  let z <-oJ P t
  match P.underlying t with
  |some (.struct fs) =>
   match fs.toList.mapM (λ f=>(P.info? f.type).map λ i=>(f.offset,i.size))with
   |some places=>(gi (λ i=>places[i]?) ps.toList).map (aI z (eC z 0))
   |none=>none
  |some (.array _ e) =>
   match P.info? e with
   |some ie=>(gi (λ i=>some (i*ie.size,ie.size)) ps.toList).map (aI z (eC z 0))
   |none=>none
  |_=>none
 |.buildSlice t n ps=>do
  let e <-vV P t
  let k <-cu P e
  let z <-oJ P e
  let l <-gi (λ i=>some (i*k,k)) ps.toList
  if z.length=k&&n*k<=16777216 then some (aO z n k l)else none
 |.load t a=>do
  let x <-dD a
  if <-hU P t then some (iS (<-cu P t) x)else some (u0 x)
 |.store t a v=>do some (dz (<-cu P t) (<-dD a) (<-dD v))
 |.nilCheck x=>(dD x).map aY
 |.binOp op t x y _=>DZ P op t x y
 |.unOp op _ x=>(dD x).map (e1 (cUn op))
 |.convert s d x=>zg P s d x
 |.makeFunc f a b=>do some (jr f (<-mn a.toList) (<-mn b.toList))
 |.makeMap _ none=>some lJ
 |.makeMap t (some (.const (.int _ _)))=>match P.underlying t with
  |some (.map _ _)=>some lJ
  |_=>none
 |.lookup t x i ok=>match P.underlying t with
  |some (.map k e)=>do
   let z <-(P.info? e).bind (·.zero)
   some (jF (<-Uu P k) (<-U0 z) ok (<-dD x) (<-dD i))
  |_=>none
 |.mapUpdate t m k v|.insert t m k v=>match P.underlying t with
  |some (.map q _)=>do some (lI (<-Uu P q) (<-dD m) (<-dD k) (<-dD v))
  |_=>none
 |.makeSlice t l c=>do
  let e <-vV P t
  let z <-oJ P e
  let k <-cu P e
  if z.length=k then some (BL z k (<-vc P e) (<-dD l) (<-dD c))else none
 |.slice t x lo hi mx =>
  match P.underlying t with
  |some (.slice e)=>if mx.isNone||hi.isSome then do some (wH (ja (<-cu P e)) (<-dD x) (<-pN lo) (<-pN hi) (<-pN mx))else none
  |_=>none
 |.fieldAddr s x f=>do
  let (off,_) <-u6 P s f
  some (e1 (zj off) (<-dD x))
 |.indexAddr t x i =>
  match P.underlying t with
  |some (.slice e)=>do some (e2 (cK (<-cu P e)) (<-dD x) (<-dD i))
  |some (.array n e)=>do some (e2 (gJ n (<-cu P e)) (<-dD x) (<-dD i))
  |_=>none
 |.index t x i =>
  match P.underlying t with
  |some .string=>do some (e2 oZ (<-dD x) (<-dD i))
  |some (.array n e)=>do some (e2 (Y6 n (<-cu P e) (<-hU P e)) (<-dD x) (<-dD i))
  |_=>none
 |.extract t i=>do some (e1 (kS i) (<-dD t))
 |.call c=>match c.callee with
  |.builtin b=>pY P c b
  |.value (.func f)=>DY P f c.args.toList
  |_=>none
 |_=>none
def XK (P : Program) (t:TypeId) (name:String):Option FuncId:=match P.info? t with
 |some ti=>match ti.methods.find? (·.name == name)with
  |some m=>match m.path.toList with
   |[]=>match m.func with
    |some (f,pr)=>match P.underlying t with
     |some (.pointer _)=>if pr then some f else none
     |some _=>if pr then none else some f
     |none=>none
    |none=>none
   |_=>none
  |none=>none
 |none=>none
def akL (P:Program) (name:String) (g:G):G:=⟨λ F=>match g.f F with
 |some (.oO t v)=>match XK P t name with
  |some f=>some (.fn (.func f) [v] [])
  |none=>none
 |_=>none⟩
def fC (nt:Nat):Option Tmp->Option Pd
 |none=>some ⟨λ _ F=>F⟩
 |some d=>if d<nt then some ⟨λ v F=>(Tr.ym (Nat.succ d) d).f (some v) F⟩else none
def u5 (P:Program) (pd:Pd) (o:Oper) (next:K):K:=
 match o.op with
 |.call {callee:=.value f,args,argTypes:=_}=>match eb P o with
  |some e=>opK pd e next
  |none=>match dD f,mn args.toList with
   |some g,some as=>BW pd g as next
   |_,_=>jQ
 |_=>match eb P o with
  |some e=>opK pd e next
  |none=>jQ
def tY (P:Program) (nt:Nat) (ops:Array Oper) (o:Oper) (next:K):K:=
 match fC nt o.dst with
 |none=>jQ
 |some pd=>match o.guard with
  |none=>u5 P pd o next
  |some (j,b)=>match (ops[j]?).bind (·.dst)with
   |some d=>su (aA d) b (u5 P pd o next) (XE pd next)
   |none=>jQ
def tX (P:Program)(nt:Nat)(ops:Array Oper):List Oper->K
 |[]=>HU
 |o::r=>tY P nt ops o (tX P nt ops r)
structure KR where
 f:Ce->Fr->Hp->List Hp->Nat->List Dm->P9
structure RS where
 f:Fr->Fr
inductive fe where
 |op (i e:Nat)
 |mod (i:Nat)
 |Vi (i:Nat)
 |jA (i:Nat)
def aoN:RS:=⟨λ _=>.nil⟩
def V4 (t:Nat)(r:RS):RS:=⟨λ F=>(Tr.ym (Nat.succ t) t).f ((aA t).f F) (r.f F)⟩
def cS:List Nat->RS
 |[]=>aoN
 |t::l=>V4 t (cS l)
def iW:List Nat->Fr->Fr
 |[],F=>F
 |t::l,F=>iW l ((Tr.ym (Nat.succ t) t).f none F)
def YV:Value->Value->Bool
 |.pointer none,.pointer none=>true
 |.slice none 0 0,.slice none 0 0=>true
 |.nilIface,.nilIface=>true
 |.nilFunc,.nilFunc=>true
 |.map none,.map none=>true
 |_,_=>false
def Iq:AV->AV->Bool
 |.int j a,.int k b=>decide (j=k)&&decide (a=b)
 |.bool a,.bool b=>a == b
 |.str a,.str b=>fk a b
 |.ptr a o,.ptr b p=>Nat.beq a b&&Nat.beq o p
 |.sl a o l s,.sl b p m r=>Nat.beq a b&&Nat.beq o p&&Nat.beq l m&&Nat.beq s r
 |.map a,.map b=>Nat.beq a b
 |.aV x,.aV y=>YV x y
 |.fn (.func f) [] [],.fn (.func g) [] []=>Nat.beq f g
 |_,_=>false
def P2:AV->AV->Bool
 |.oO t v,.oO u w=>Nat.beq t u&&Iq v w
 |v,w=>Iq v w
def Cd:List AV->List AV->Bool
 |[],[]=>true
 |a::x,b::y=>match P2 a b with
  |true=>Cd x y
  |false=>false
 |_,_=>false
def Zg:AV->AV->Bool
 |.agg a n,.agg b m=>Nat.beq n m&&Cd a b
 |v,w=>P2 v w
def yY (f:AV->AV->Bool):List AV->List AV->Bool
 |[],[]=>true
 |a::x,b::y=>match f a b with
  |true=>yY f x y
  |false=>false
 |_,_=>false
def YL:Nat->AV->AV->Bool
 |0,_,_=>false
 |k+1,a,b=>match a,b with
  |.agg x n,.agg y m=>Nat.beq n m&&yY (YL k) x y
  |.bo x,.bo y=>yY (YL k) x y
  |.oO t v,.oO u w=>Nat.beq t u&&YL k v w
  |.fn (.func f) a b,.fn (.func g) c d=>Nat.beq f g&&yY (YL k) a c&&yY (YL k) b d
  |.jd a,.jd b=>Nat.beq a b
  |.ds x n s,.ds y m t=>Nat.beq n m&&Nat.beq s t&&yY (YL k) x y
  |.dp x,.dp y=>yY (YL k) x y
  |a,b=>Iq a b
open Classical in
def KF (v w:AV):Bool:=match Zg v w with
 |true=>true
 |false=>match YL 8 v w with
  |true=>true
  |false=>decide (v=w)
def fD (e : Eff) (F:Fr) (n:Nat):Nat->List Hp->Option AV
 |0,_=>none
 |_+1,[]=>none
 |k + 1,A::As=>match e F A n with
  |.val v=>match k with
   |0=>some v
   |_ => match fD e F n k As with
    |some u=>match KF v u with
     |true=>some u
     |false=>none
    |none=>none
  |_=>none
def jx (n:Nat):List Hp->Bool
 |[]=>true
 |A::As=>match A.get n with
  |none=>jx n As
  |some _=>false
def opR (rs:RS) (pd:Pd) (e:Eff) (cnt:Nat) (next:KR):KR:=.mk <| λ ce F H Hs n m=>match e (rs.f F) .nil n with
 |.val v=>next.f ce (pd.f v F) H Hs n m
 |.new v k=>match jx n Hs with
  |true=>next.f ce (pd.f v F) (H.put n (some k)) Hs (Nat.succ n) m
  |false=>.fail
 |.fail=>match fD e (rs.f F) n cnt Hs with
  |some v=>next.f ce (pd.f v F) H Hs n m
  |none=>.fail
 |_=>.fail
def Ug (pd:Pd)(next:KR):KR:=.mk <| λ ce F H Hs n m=>next.f ce (pd.f (.bo []) F) H Hs n m
def Uh (pd:Pd)(next:KR):KR:=.mk <| λ ce F H Hs n m=>next.f ce (pd.f (.bo []) F) H (H::Hs) n m
def Hg (rs:RS)(pd:Pd)(e:Eff)(next:KR):KR:=.mk <| λ ce F H Hs n m=>match e (rs.f F) H n with
 |.val v=>next.f ce (pd.f v F) H (H::Hs) n m
 |.new v k=>next.f ce (pd.f v F) (H.put n (some k)) (H.put n (some k)::Hs) (Nat.succ n) m
 |.upd v b k=>next.f ce (pd.f v F) (H.put b (some k)) (H.put b (some k)::Hs) n m
 |.mv v b k=>next.f ce (pd.f v F) ((H.put b none).put n (some k)) ((H.put b none).put n (some k)::Hs) (Nat.succ n) m
 |.fail=>.fail
def lK (rs:RS) (pd:Pd) (g:G) (args:List G) (next:KR):KR:=.mk <| λ ce F H Hs n m=>match g.f (rs.f F)with
 |some (.fn (.func f) first cap)=>match evs (rs.f F) args with
  |some as=>match ce.call f (first++(as++cap)) H n with
   |.mk v H' n'=>next.f ce (pd.f v F) H' (H'::Hs) n' m
   |_=>.fail
  |none=>.fail
 |some (.jd q)=>match evs (rs.f F) args with
  |some as=>match Gp ce q as H n with
   |.mk v H' n'=>next.f ce (pd.f v F) H' (H'::Hs) n' m
   |_=>.fail
  |none=>.fail
 |_=>.fail
def yO (rs:RS)(g:G)(want:Bool)(yes no:KR):KR:=.mk <| λ ce F H Hs n m=>match g.f (rs.f F)with
 |some (.bool b)=>bif b == want then yes.f ce F H Hs n m else no.f ce F H Hs n m
 |some _=>no.f ce F H Hs n m
 |none=>.fail
def Yz (rs:RS) (pd:Pd) (e:Eff) (next:KR):KR:=.mk <| λ ce F H Hs n m=>match Hs with
 |[]=>.fail
 |B :: l=>match e (rs.f F) B n with
  |.upd v b k=>match B.get b with
   |some _=>next.f ce (pd.f v F) (H.put b (some k)) (B.put b none::l) n m
   |none=>.fail
  |_=>.fail
def aly:KR:=.mk <| λ _ F H _ n m=>.mk .normal F H n m
def jP:KR:=.mk <| λ _ _ _ _ _ _=>.fail
def xI:List Operand->List Nat
 |[]=>[]
 |.tmp t::l=>t::xI l
 |_::l=>xI l
def slotsOf (ops:Array Oper) (o:Oper):List Nat:=match o.guard with
 |none=>xI o.op.operands.toList
 |some (j,_)=>match (ops[j]?).bind (·.dst)with
  |some d=>d::xI o.op.operands.toList
  |none=>xI o.op.operands.toList
def Dy (P:Program)(rs:RS)(pd:Pd)(o:Oper)(cnt:Nat)(next:KR):KR:=match eb P o with
 |some e=>opR rs pd e cnt next
 |none=>jP
def inM (P:Program) (rs:RS) (pd:Pd) (o:Oper) (next:KR):KR:=match o.op with
 |.call {callee:=.value f,args,argTypes:=_}=>match eb P o with
  |some e=>Hg rs pd e next
  |none=>match dD f,mn args.toList with
   |some g,some as=>lK rs pd g as next
   |_,_=>jP
 |_=>match eb P o with
  |some e=>Hg rs pd e next
  |none=>jP
def inF (P:Program) (rs:RS) (pd:Pd) (o:Oper) (next:KR):KR:=match o.op with
 |.store _ _ _=>match eb P o with
  |some e=>Yz rs pd e next
  |none=>jP
 |_=>jP
def guarded (ops:Array Oper) (rs:RS) (o:Oper) (yes no:KR):KR:=match o.guard with
 |none=>yes
 |some (j,b)=>match (ops[j]?).bind (·.dst)with
  |some d=>yO rs (aA d) b yes no
  |none=>jP
def gp (P:Program) (nt:Nat) (ops:Array Oper):List fe->Nat->KR
 |[],_=>aly
 |.op i e::l,j=>match ops[i]? with
  |some o=>match fC nt o.dst with
   |some pd=>guarded ops (cS (slotsOf ops o)) o (Dy P (cS (slotsOf ops o)) pd o (Nat.succ (Nat.sub j e)) (gp P nt ops l j)) (Ug pd (gp P nt ops l j))
   |none=>jP
  |none=>jP
 |.mod i::l,j=>match ops[i]? with
  |some o=>match fC nt o.dst with
   |some pd=>guarded ops (cS (slotsOf ops o)) o (inM P (cS (slotsOf ops o)) pd o (gp P nt ops l (Nat.succ j))) (Uh pd (gp P nt ops l (Nat.succ j)))
   |none=>jP
  |none=>jP
 |.Vi i::l,j=>match ops[i]? with
  |some o=>match fC nt o.dst with
   |some pd=>guarded ops (cS (slotsOf ops o)) o (Dy P (cS (slotsOf ops o)) pd o 0 (gp P nt ops l j)) (Ug pd (gp P nt ops l j))
   |none=>jP
  |none=>jP
 |.jA i::l,j=>match ops[i]? with
  |some o=>match fC nt o.dst with
   |some pd=>match o.guard with
    |none=>inF P (cS (slotsOf ops o)) pd o (gp P nt ops l j)
    |some _=>jP
   |none=>jP
  |none=>jP
def tb (m i:Nat):Bool:=Nat.beq (Nat.land (Nat.shiftRight m i) 1) 1
def Ix (T:Tr Nat):List Edge->Nat->Nat
 |[],s=>s
 |e::l,s=>match Region.binds .any e with
  |true=>Ix T l (Nat.lor (Nat.lor s (Nat.shiftLeft 1 e.on)) (lR (T.get e.on) 0 id))
  |false=>Ix T l s
def mZ:List Oper->Nat->Tr Nat->Tr Nat
 |[],_,T=>T
 |o::l,i,T=>mZ l (Nat.succ i) (gC (Ix T o.after.toList 0) λ m=>T.put i (some m))
def afy:Op->Bool
 |.call {callee:=.value _,args:=_,argTypes:=_}=>true
 |.call {callee:=.invoke _ _,args:=_,argTypes:=_}=>true
 |.call {callee:=.builtin .append,args:=_,argTypes:=_}=>true
 |.call {callee:=.builtin .copy,args:=_,argTypes:=_}=>true
 |.call {callee:=.builtin .delete,args:=_,argTypes:=_}=>true
 |.store _ _ _=>true
 |.mapUpdate _ _ _ _=>true
 |.insert _ _ _ _=>true
 |.call {callee:=.builtin .clear,args:=_,argTypes:=_}=>true
 |.next _ _=>true
 |_=>false
def dP (T:Tr Nat)(i:Nat):Nat:=lR (T.get i) 0 id
def aq' (T:Tr Nat)(i:Nat):List Nat->Nat
 |[]=>0
 |q::l=>bif tb (dP T i) q then Nat.succ (aq' T i l)else 0
def group (T:Tr Nat)(bL:List Nat)(s t mm:Nat):List Oper->Nat->List fe->List fe
 |[],_,r=>r
 |_::l,i,r=>bif tb s i&&!tb t i&&!tb mm i then .op i (aq' T i bL)::group T bL s t mm l (Nat.succ i) r else group T bL s t mm l (Nat.succ i) r
def JM (s t mm:Nat):List Oper->Nat->List fe->List fe
 |[],_,r=>r
 |_::l,i,r=>bif tb s i&&!tb t i&&!tb mm i then .Vi i::JM s t mm l (Nat.succ i) r else JM s t mm l (Nat.succ i) r
def ahh:List Nat->List fe
 |[]=>[]
 |q::l=>.jA q::ahh l
def W6 (T:Tr Nat) (bL fl:List Nat) (mm all:Nat) (ops:List Oper):List Nat->Nat->List fe
 |[],seen=>match fl with
  |[]=>group T bL all seen mm ops 0 []
  |q::l=>JM all seen mm ops 0 (ahh (q::l))
 |q::l,seen=>group T bL (dP T q) seen mm ops 0 (.mod q::W6 T bL fl mm all ops l (Nat.lor (Nat.lor seen (dP T q)) (Nat.shiftLeft 1 q)))
def Zo (T:Tr Nat)(q:Nat):List Nat->Bool
 |[]=>true
 |x::l=>bif tb (dP T x) q then Zo T q l else false
def VM (T:Tr Nat):List Nat->List Nat×List Nat
 |[]=>([],[])
 |q :: l=>match Zo T q l with
  |true=>match VM T l with
   |(a,b)=>(q::a,b)
  |false=>([],q::l)
def Dj:List Oper->Nat->List Nat
 |[],_=>[]
 |o::l,i=>bif afy o.op then i::Dj l (Nat.succ i)else Dj l (Nat.succ i)
def XR:List Nat->Nat
 |[]=>0
 |q::l=>Nat.lor (Nat.shiftLeft 1 q) (XR l)
def T9 (T:Tr Nat)(ops:List Oper):List fe:=
 match VM T (Dj ops 0)with
 |(ch,fl)=>W6 T ch fl (XR (Dj ops 0)) (Nat.sub (Nat.shiftLeft 1 (eC ops 0)) 1) ops ch 0
def y8:List Oper->Nat->Tr Nat->Option (Tr Nat)
 |[],_,T=>some T
 |o :: l,i,T=>match o.dst with
  |none=>y8 l (Nat.succ i) T
  |some d=>match T.get d with
   |none=>y8 l (Nat.succ i) (T.put d (some i))
   |some _=>none
def Im:List Edge->Nat->Bool
 |[],_=>true
 |e::l,i=>match Region.binds .any e with
  |true=>bif Nat.blt e.on i then Im l i else false
  |false=>Im l i
def P1:List Oper->Nat->Bool
 |[],_=>true
 |o::l,i=>Im o.after.toList i&&P1 l (Nat.succ i)
def Ao:List Oper->Tr Nat->Tr Nat
 |[],T=>T
 |o :: l,T=>match o.op with
  |.assign _=>match o.dst with
   |some d=>Ao l (T.put d (some 0))
   |none=>Ao l T
  |_=>Ao l T
def iL (T D E:Tr Nat) (i seen:Nat):List Nat->Bool
 |[]=>true
 |t :: l=>match D.get t with
  |none=>iL T D E i seen l
  |some p=>match E.get t with
   |none=>bif tb (dP T i) p then iL T D E i seen l else false
   |some _=>bif tb (dP T p) i&&!tb seen p then iL T D E i seen l else false
def HE (m:Nat):List Nat->Bool
 |[]=>true
 |p::l=>bif tb m p then HE m l else false
def sJ (T D E:Tr Nat) (ops:Array Oper) (bL:List Nat):List fe->(seen:Nat)->Bool
 |[],_=>true
 |.jA i::l,seen=>match ops[i]? with
  |some o=>iL T D E i seen (slotsOf ops o)&&(match bL with
   |[]=>true
   |q::_=>tb (dP T i) q)&&sJ T D E ops bL l (Nat.lor seen (Nat.shiftLeft 1 i))
  |none=>false
 |_::_,_=>false
def nI (T D E:Tr Nat) (ops:Array Oper):List fe->(bL grp bad:List Nat)->(seen:Nat)->Bool
 |[],_,_,_,_=>true
 |.jA i::l,bL,_,bad,seen=>match bad with
  |[]=>sJ T D E ops bL (.jA i::l) seen
  |_::_=>false
 |.Vi i::l,bL,grp,bad,seen=>match ops[i]? with
  |some o=>iL T D E i seen (slotsOf ops o)&&nI T D E ops l bL (i::grp) bad (Nat.lor seen (Nat.shiftLeft 1 i))
  |none=>false
 |.op i e::l,bL,grp,bad,seen=>match ops[i]? with
  |some o=>iL T D E i seen (slotsOf ops o)&&(match e with
   |0=>true
   |_=>Nat.ble e (eC bL 0)&&lR (nth bL (Nat.sub (eC bL 0) e)) false (λ q=>tb (dP T i) q))&&nI T D E ops l bL (i::grp) (i::bad) (Nat.lor seen (Nat.shiftLeft 1 i))
  |none=>false
 |.mod i::l,bL,grp,_,seen=>match ops[i]? with
  |some o=>iL T D E i seen (slotsOf ops o)&&HE (dP T i) grp&&(match bL with
   |[]=>true
   |q::_=>tb (dP T i) q)&&nI T D E ops l (i::bL) [] [] (Nat.lor seen (Nat.shiftLeft 1 i))
  |none=>false
def idxOf:fe->Nat
 |.op i _=>i
 |.mod i=>i
 |.Vi i=>i
 |.jA i=>i
def yz:List fe->Nat->Option Nat
 |[],s=>some s
 |x::l,s=>bif tb s (idxOf x)then none else yz l (Nat.lor s (Nat.shiftLeft 1 (idxOf x)))
def Ht:Op->Bool
 |.assign _=>true
 |_=>false
def iU:List Oper->List Nat
 |[]=>[]
 |o :: l=>match Ht o.op with
  |true=>iU l
  |false=>match o.dst with
   |some d=>d::iU l
   |none=>iU l
def wR (T:Tr Nat) (ops:Array Oper) (pl:List fe):Bool:=
 P1 ops.toList 0&&(match y8 ops.toList 0 .nil with
  |some D=>nI T D (Ao ops.toList .nil) ops pl [] [] [] 0
  |none=>false)&&(match yz pl 0 with
  |some s=>Nat.beq s (Nat.sub (Nat.shiftLeft 1 (eC ops.toList 0)) 1)
  |none=>false)
def aez (P:Program)(nt:Nat)(ops:Array Oper)(pl:List fe)(ok:Bool):K:=match ok with
 |true=>.mk <| λ ce F H n m=>(gp P nt ops pl 0).f ce (iW (iU ops.toList) F) H [H] n m
 |false=>jQ
def PI (P:Program)(nt:Nat)(ops:Array Oper)(T:Tr Nat):K:=aez P nt ops (T9 T ops.toList) (wR T ops (T9 T ops.toList))
def Bn:Code->Option (Operand×Tmp×Array Oper×List Oper)
 |.region _ ops false=>match ops.toList with
  |o::os=>match o.op,o.guard,o.dst with
   |.next x false,none,some d=>some (x,d,ops,os)
   |_,_,_=>none
  |[]=>none
 |_=>none
def afl (_:Program)(_:Nat)(_:Operand)(_:Tmp)(_:Array Oper)(_:List Oper)(_:K):K:=jQ
def Dw:Op->Bool
 |.defer _=>true
 |_=>false
def eE:List Oper->Bool
 |[]=>false
 |o::l=>Dw o.op||eE l
def comp (P:Program) (nt:Nat) (rd:Bool):Code->K
 |.skip=>HU
 |.region _ ops d=>bif d then (bif P.follows .mixedOrders then PI P nt ops (mZ ops.toList 0 .nil)else jQ)else (bif rd&&eE ops.toList then jQ else tX P nt ops ops.toList)
 |.seq a b=>Jk (comp P nt rd a) (comp P nt rd b)
 |.cond c a b=>match dD c with
  |some x=>BN x (comp P nt rd a) (comp P nt rd b)
  |none=>jQ
 |.block id b=>ve id (comp P nt rd b)
 |.loop (.seq a rest)=>match Bn a with
  |some (x,d,ops,os)=>bif rd&&eE os then jQ else afl P nt x d ops os (comp P nt rd rest)
  |none=>Hk (Jk (comp P nt rd a) (comp P nt rd rest))
 |.loop b=>Hk (comp P nt rd b)
 |.exit id=>Pz id
 |.ret=>aew
 |.scope b=>comp P nt rd b
 |.label _=>HU
 |.rangeFunc f ps a b=>match dD f with
  |some x=>bif rd then jQ else C4 nt x ps.toList a b
  |none=>jQ
 |_=>jQ
def lF (P:Program):List ResultVar->Option (List (Fr->Hp->Option AV))
 |[]=>some []
 |.tmp t::r=>(lF P r).map ((λ F _=>(aA t).f F)::·)
 |.cell a t::r=>match lF P r,hU P t,cu P t with
  |some l,some true,some k=>some ((λ F H=>match (aA a).f F with
   |some v=>match eD k v H with
    |.val v=>some v
    |_=>none
   |none=>none)::l)
  |some l,some false,some _=>some ((λ F H=>match (aA a).f F with
   |some v=>match cE v H with
    |.val v=>some v
    |_=>none
   |none=>none)::l)
  |_,_,_=>none
def Ah (F:Fr) (H:Hp):List (Fr->Hp->Option AV)->Option (List AV)
 |[]=>some []
 |x :: r=>match x F H with
  |some v=>match Ah F H r with
   |some l=>some (v::l)
   |none=>none
  |none=>none
def wh:List AV->AV
 |[v]=>v
 |l=>.bo l
def dF:List Dm->Hp->Option Hp
 |[],H=>some H
 |.cG m::r,H=>match H.get m with
  |some .jS=>dF r (H.put m none)
  |_=>none
 |.fn _ _::_,_=>none
def Oo:UM->UM
 |.wu _ true=>.ret
 |u=>u
def k_ (ce:Ce):List Dm->UM->Hp->Nat->amW
 |[],u,H,n=>.mk u H n
 |.cG b::r,u,H,n=>match H.get b with
  |some .jS=>k_ ce r u (H.put b none) n
  |_=>.fail
 |.fn f args::r,u,H,n=>match ce.dcall f args u H n with
  |.mk u' H' n'=>k_ ce r (Oo u') H' n'
  |.fail=>.fail
def mr (rs:List (Fr->Hp->Option AV)) (F:Fr):amW->iC
 |.mk .ret H n=>match Ah F H rs with
  |some vs=>.mk (wh vs) H n
  |none=>.fail
 |.mk (.wu v false) H n=>.wu v H n
 |_=>.fail
def yF (ce:Ce)(rs:List (Fr->Hp->Option AV)):P9->iC
 |.mk .normal F H n m=>mr rs F (k_ ce m .ret H n)
 |.mk .ret F H n m=>mr rs F (k_ ce m .ret H n)
 |.mk (.panic v) F H n m=>mr rs F (k_ ce m (.wu v false) H n)
 |.mk (.exit _) _ _ _ _=>.fail
 |.fail=>.fail
structure AF where
 res:List (Fr->Hp->Option AV)
 code:K
 nt:Nat
def PK (P:Program) (g:FuncId):Option AF:=match P.funcs[g]? with
 |some fn=>match fn.body with
  | some b => match fn.name == "runtime.NumGoroutine" with
   |true=>none
   |false=>match lF P fn.results.toList with
    |some r=>some {res:=r,code:=comp P fn.ntmps false b,nt:=fn.ntmps}
    |none=>none
  |none=>none
 |none=>none
def run (P:Program):Nat->Ce
 |0=>{call:=λ _ _ _ _=>.fail,code:=λ _ _ _ _ _=>.fail,dcall:=λ _ _ _ _ _=>.fail}
 |f + 1 => {
   call:=λ g args H n=>match PK P g with
    |some af=>match Nat.ble (eC args 0) af.nt with
     |true=>yF (run P f) af.res (af.code.f (run P f) (Tr.bO args 0 .nil) H n [])
     |false=>.fail
    |none=>.fail
   code:=λ nt c F H n=>(comp P nt true c).f (run P f) F H n []
   dcall:=λ _ _ _ _ _=>.fail}
end Go.Abs
namespace Go.Abs
open List
abbrev Ph:=Nat->Option (Nat×Nat×Nat)
abbrev Da:=Nat->Option (Array Value)
abbrev Hf:=Nat->Option bG
abbrev Ff:=Nat->Option AV
mutual
inductive VR (φ:Ph)(D:Da):AV->Value->Prop
 |int (k n):VR φ D (.int k n) (.int k n)
 |bool (b):VR φ D (.bool b) (.bool b)
 |str (s:ByteArray) (l:List Nat):s.data.toList.map UInt8.toNat=l->VR φ D (.str l) (.string s)
 |ptr (b o cb co cz):φ b=some (cb,co,cz)->VR φ D (.ptr b o) (.pointer (some ⟨cb,co+o,none⟩))
 |sl (b o len sz cb co cz cap ad):φ b=some (cb,co,cz)->len<=cap->(0<cap->ad=⟨cb,co+o,none⟩/\co+o+cap*sz<=cz) ->
   VR φ D (.sl b o len sz) (.slice (some ad) len cap)
 |agg (cs l n):bW φ D cs l->cs.length=n->VR φ D (.agg cs n) (.agg ⟨l⟩)
 |bo (cs l):bW φ D cs l->VR φ D (.bo cs) (.tuple ⟨l⟩)
 |oO (t v x):VR φ D v x->VR φ D (.oO t v) (.iface t x)
 |fn (f a b x y):bW φ D a x->bW φ D b y->VR φ D (.fn f a b) (.func f ⟨x⟩ ⟨y⟩)
 |map (b cb co cz):φ b=some (cb,co,cz)->VR φ D (.map b) (.map (some cb))
 |ds (cs len sz cap cb co cells l):D cb=some cells->l=(cells.toList.drop co).take (len*sz)->cs.length=len*sz->bW φ D cs l->len<=cap ->
   VR φ D (.ds cs len sz) (.slice (some ⟨cb,co,none⟩) len cap)
 |pW (sz cap ad):VR φ D (.ds [] 0 sz) (.slice (some ad) 0 cap)
 |tW (sz):VR φ D (.ds [] 0 (sz+1)) (.slice none 0 0)
 |dp (cs cb co cells l):D cb=some cells->l=(cells.toList.drop co).take cs.length->bW φ D cs l->VR φ D (.dp cs) (.pointer (some ⟨cb,co,none⟩))
 |jd (b cb co cz):φ b=some (cb,co,cz)->VR φ D (.jd b) (.func (.yield cb) #[] #[])
 |aV (v):atom v=true->VR φ D (.aV v) v
inductive bW (φ:Ph)(D:Da):List AV->List Value->Prop
 |nil:bW φ D [] []
 |cons (v x vs xs):VR φ D v x->bW φ D vs xs->bW φ D (v::vs) (x::xs)
end
section
variable {φ φ':Ph}{D D':Da}
mutual
theorem VR.mono (hφ:∀b x,φ b=some x->φ' b=some x)(hD:∀c x,D c=some x->D' c=some x):∀ {v x},VR φ D v x->VR φ' D' v x
 |_,_,.int _ _=>.int _ _
 |_,_,.bool _=>.bool _
 |_,_,.str _ _ h=>.str _ _ h
 |_,_,.ptr _ _ _ _ _ h=>.ptr _ _ _ _ _ (hφ _ _ h)
 |_,_,.sl _ _ _ _ _ _ _ _ _ h a b=>.sl _ _ _ _ _ _ _ _ _ (hφ _ _ h) a b
 |_,_,.agg _ _ _ h e=>.agg _ _ _ (bW.mono hφ hD h) e
 |_,_,.bo _ _ h=>.bo _ _ (bW.mono hφ hD h)
 |_,_,.oO _ _ _ h=>.oO _ _ _ (VR.mono hφ hD h)
 |_,_,.fn _ _ _ _ _ h k=>.fn _ _ _ _ _ (bW.mono hφ hD h) (bW.mono hφ hD k)
 |_,_,.map _ _ _ _ h=>.map _ _ _ _ (hφ _ _ h)
 |_,_,.ds _ _ _ _ _ _ _ _ h a b c d=>.ds _ _ _ _ _ _ _ _ (hD _ _ h) a b (bW.mono hφ hD c) d
 |_,_,.pW _ _ _=>.pW _ _ _
 |_,_,.tW _=>.tW _
 |_,_,.dp _ _ _ _ _ h a b=>.dp _ _ _ _ _ (hD _ _ h) a (bW.mono hφ hD b)
 |_,_,.jd _ _ _ _ h=>.jd _ _ _ _ (hφ _ _ h)
 |_,_,.aV _ h=>.aV _ h
theorem bW.mono (hφ:∀b x,φ b=some x->φ' b=some x)(hD:∀c x,D c=some x->D' c=some x):∀ {v x},bW φ D v x->bW φ' D' v x
 |_,_,.nil=>.nil
 |_,_,.cons _ _ _ _ h k=>.cons _ _ _ _ (VR.mono hφ hD h) (bW.mono hφ hD k)
end
theorem bW.length:∀ {vs xs},bW φ D vs xs->vs.length=xs.length
 |_,_,.nil=>rfl
 |_,_,.cons _ _ _ _ _ k=>by simp[bW.length k]
theorem bW.get {vs:List AV}{xs:List Value}(h:bW φ D vs xs):∀ {i:Nat}{v:AV},vs[i]?=some v->∃x,xs[i]?=some x/\VR φ D v x:=by
 induction vs generalizing xs with
 |nil=>intro i v hv;simp at hv
 |cons a r ih =>
  cases h with
  |cons _ x _ xs h1 h2 =>
   intro i v hv
   cases i with
   |zero=>simp at hv;subst hv;exact⟨x,rfl,h1⟩
   |succ i=>simp at hv;simpa using ih h2 hv
theorem bW.pO:∀ {vs:List AV}{xs:List Value},vs.length=xs.length->(∀(i:Nat)(v:AV),vs[i]?=some v->∃x,xs[i]?=some x/\VR φ D v x)->bW φ D vs xs
 |[],[],_,_=>.nil
 |[],_::_,h,_=>by simp at h
 |_::_,[],h,_=>by simp at h
 |v::vs,x::xs,h,hg=>by
  obtain⟨y,hy,hv⟩:=hg 0 v rfl;simp at hy;subst hy;exact .cons _ _ _ _ hv (bW.pO (by simpa using h) λ i u hu=>hg (i+1) u (by simpa using hu))
theorem bW.append {a b x y}(h:bW φ D a x)(k:bW φ D b y):bW φ D (a++b) (x++y):=by
 induction a generalizing x with
 |nil=>cases h;simpa using k
 |cons v r ih=>cases h with
  |cons _ u _ us h1 h2=>exact .cons _ _ _ _ h1 (ih h2)
theorem bW.drop {a x}(n:Nat)(h:bW φ D a x):bW φ D (a.drop n) (x.drop n):=by
 induction n generalizing a x with
 |zero=>simpa using h
 |succ n ih=>cases h with
  |nil=>exact .nil
  |cons _ _ _ _ _ h2=>simpa using ih h2
theorem bW.take {a x}(n:Nat)(h:bW φ D a x):bW φ D (a.take n) (x.take n):=by
 induction n generalizing a x with
 |zero=>simpa using bW.nil
 |succ n ih=>cases h with
  |nil=>exact .nil
  |cons _ _ _ _ h1 h2=>simpa using bW.cons _ _ _ _ h1 (ih h2)
def fS:Value->Bool
 |.agg _|.tuple _=>false
 |_=>true
theorem Ir {x:Value}(h:atom x=true):fS x=true:=by
 cases x<;>simp_all [atom,fS]
theorem cells_one {x:Value}(h:fS x=true):x.cells.toList=[x]:=by
 cases x<;>simp_all [fS,Value.cells]
theorem VR.cells {v x}(h:VR φ D v x):bW φ D v.cells x.cells.toList:=by
 cases h with
 |agg _ _ _ h _=>exact h
 |aV _ hv=>rw[cells_one (Ir hv)];exact .cons _ _ _ _ (.aV _ hv) .nil
 |pW=>exact .cons _ _ _ _ (.pW _ _ _) .nil
 |tW=>exact .cons _ _ _ _ (.tW _) .nil
 |_=>exact .cons _ _ _ _ (by constructor<;>assumption) .nil
theorem VR.len {v x}(h:VR φ D v x):v.len=v.cells.length:=by
 cases h with
 |agg _ _ _ _ h=>exact h.symm
 |_=>rfl
theorem VR.one {v x}(h:VR φ D v x)(ho:v.one=true):fS x=true:=by
 cases h with
 |aV _ hv=>exact Ir hv
 |agg=>simp[AV.one]at ho
 |bo=>simp[AV.one]at ho
 |_=>rfl
end
def gY:lO->Option Code
 |.normal=>none
 |.exit i=>some (.exit i)
 |.ret=>some .ret
 |.panic _=>none
def BG:List (IntKind×Int)->List Value
 |[]=>[]
 |(k,n)::r=>.int k n::BG r
def GD (g:Nat):Option (Array Value):=match alg g with
 |[]=>aqI g
 |a::r=>some ⟨BG (a::r)⟩
def GB (D:Da):Prop:=∀c x,GD c=some x->D c=some x
theorem GB.mono {D D':Da}(hD:∀c x,D c=some x->D' c=some x)(h:GB D):GB D':=λ c x hx=>hD c x (h c x hx)
theorem BD {φ:Ph}{D:Da}:∀l:List (IntKind×Int),bW φ D (DL l) (BG l)
 |[]=>.nil
 |(_,_)::r=>.cons _ _ _ _ (.int _ _) (BD r)
theorem BF:∀l:List (IntKind×Int),(DL l).length=(BG l).length
 |[]=>rfl
 |(_,_)::r=>congrArg Nat.succ (BF r)
theorem alh {φ:Ph}{D:Da}(hD:GB D){g:Nat}{l:List AV}(h:gAv g=some l):VR φ D (.dp l) (.pointer (some ⟨g,0,none⟩)):=by
 unfold gAv at h
 split at h
 ·cases h
 rename_i a r hg;injection h with h;subst h;refine .dp _ _ _ ⟨BG (a::r)⟩ (BG (a::r)) (hD g _ (by unfold GD;rw[hg])) ?_ (BD (a::r));rw[BF,drop_zero];exact(take_length ..).symm
def FR (φ:Ph)(D:Da)(F:Ff)(tmps:Array Value):Prop:=(∀t v,F t=some v->∃x,tmps[t]?=some x/\VR φ D v x)/\GB D
inductive xw (φ:Ph)(D:Da):List (AV×AV×Nat)->List MapEntry->Prop
 |nil:xw φ D [] []
 |cons (k v b x y es l):VR φ D k x->VR φ D v y->xw φ D es l->xw φ D ((k,v,b)::es) (⟨x,y,b⟩::l)
def Nfr (k:Nat)(fr:Nat×Nat):Prop:=fr.1=fr.2∨k<=fr.1
theorem Nfr.at {k:Nat}{fr:Nat×Nat}(h:Nfr k fr):∀i,i<k->¬(fr.1<=i/\i<fr.2):=by
 intro i hi h2;unfold Nfr at h;omega
def jc (φ:Ph)(D:Da)(w:World)(p:Nat×Nat×Nat):bG->Prop
 |.cells u z bs t=>∃c e fr,w.heap[p.1]?=some (.cells c e fr)/\c.size=p.2.2/\Nfr c.size fr /\
   (∀i v,gZ u z bs t i=some v->∃x,c[p.2.1+i]?=some x/\VR φ D v x)/\(t=.nil->z=[]->bs.length=u)/\p.2.1+u<=p.2.2
 |.map es clk=>∃BV,w.heap[p.1]?=some (.map BV clk)/\xw φ D es BV.toList
 |.loop st j nt F ps a b=>∃(r:Loop),w.heap[p.1]?=some (.loop r)/\r.state=st/\r.pending=gY j/\r.tmps.size=nt/\FR φ D F.get r.tmps/\r.params.toList=ps/\r.assign=a/\r.body=b
 |.jS=>w.heap[p.1]?=some (.deferred (some []))
 |.iter m since seen last=>p.2.1=0/\∃cm:Option Nat,w.heap[p.1]?=some (.mapIter cm since ⟨seen⟩ last)/\(match m with
   |none=>cm=none
   |some b=>∃cb co cz,φ b=some (cb,co,cz)/\cm=some cb)
theorem FR.mono {φ φ' D D' F tmps}(hφ:∀b x,φ b=some x->φ' b=some x)(hD:∀c x,D c=some x->D' c=some x)(h:FR φ D F tmps):FR φ' D' F tmps:=
 ⟨λ t v hv=>let ⟨x,a,b⟩:=h.1 t v hv;⟨x,a,b.mono hφ hD⟩,h.2.mono hD⟩
theorem xw.mono {φ φ' D D'}(hφ:∀b x,φ b=some x->φ' b=some x)(hD:∀c x,D c=some x->D' c=some x):∀ {es l},xw φ D es l->xw φ' D' es l
 |_,_,.nil=>.nil
 |_,_,.cons _ _ _ _ _ _ _ h k r=>.cons _ _ _ _ _ _ _ (h.mono hφ hD) (k.mono hφ hD) (xw.mono hφ hD r)
theorem jc.mono {φ φ' D D' w w' p k}(hφ:∀b x,φ b=some x->φ' b=some x)(hD:∀c x,D c=some x->D' c=some x)
  (hw:w'.heap[p.1]?=w.heap[p.1]?)(h:jc φ D w p k):jc φ' D' w' p k:=by
 cases k with
 |cells u z bs t =>
  obtain⟨c,e,fr,h1,h2,h3,h4,h5⟩:=h;exact⟨c,e,fr,hw.trans h1,h2,h3,λ i v hv=>let ⟨x,a,b⟩:=h4 i v hv;⟨x,a,b.mono hφ hD⟩,h5⟩
 |map es clk=>obtain⟨BV,h1,h2⟩:=h;exact⟨BV,hw.trans h1,h2.mono hφ hD⟩
 |loop st j nt F ps a b =>
  obtain⟨r,h1,h2,h3,h4,h5,h6⟩:=h;exact⟨r,hw.trans h1,h2,h3,h4,h5.mono hφ hD,h6⟩
 |jS=>exact hw.trans h
 |iter m since seen last =>
  obtain⟨h0,cm,h1,h2⟩:=h;refine⟨h0,cm,hw.trans h1,?_⟩
  cases m with
  |none=>exact h2
  |some b=>obtain⟨cb,co,cz,h3,h4⟩:=h2;exact⟨cb,co,cz,hφ _ _ h3,h4⟩
def Dat (D:Da)(w:World):Prop:=(∀c x,D c=some x->∃e fr,w.heap[c]?=some (.cells x e fr))/\GB D
structure Rel (φ:Ph)(D:Da)(h:Hf)(w:World):Prop where
 blk:∀b k,h b=some k->∃p,φ b=some p/\p.1<w.heap.size/\jc φ D w p k
 inj:∀b c p q,h b≠none->h c≠none->φ b=some p->φ c=some q->p.1=q.1->b=c
 sep:∀b p,h b≠none->φ b=some p->D p.1=none
 eS:Dat D w
structure Ext (φ:Ph)(D:Da)(h:Hf)(w:World)(n:Nat)(φ':Ph)(D':Da)(h':Hf)(w':World)(n':Nat):Prop where
 le:n<=n'
 phi:∀b x,φ b=some x->φ' b=some x
 new:∀b,φ b=none->φ' b≠none->n<=b/\b<n'
 eS:∀c x,D c=some x->D' c=some x
 size:w.heap.size<=w'.heap.size
 keep:∀c,c<w.heap.size->(∀b p,h b≠none->φ b=some p->p.1≠c)->w'.heap[c]?=w.heap[c]?
 live:∀b p,h' b≠none->φ' b=some p->w.heap.size<=p.1∨∃b0 p0,h b0≠none/\φ b0=some p0/\p0.1=p.1
 kR:∀c,D' c≠none->D c≠none∨w.heap.size<=c∨∃b0 p0,h b0≠none/\φ b0=some p0/\p0.1=c
 hid:∀b,h' b≠none->h b≠none∨(n<=b/\b<n')
 os:w'.os=w.os
 out:w'.output=w.output
def cU (φ:Ph)(n n':Nat):Prop:=∀b,n<=b->b<n'->φ b=none
theorem Ext.refl (φ:Ph)(D:Da)(h:Hf)(w:World)(n:Nat):Ext φ D h w n φ D h w n:=
 ⟨aK _,λ _ _ h=>h,λ _ h k=>ar h k,λ _ _ h=>h,aK _,λ _ _ _=>rfl,λ _ _ a b=>.inr ⟨_,_,a,b,rfl⟩,λ _ h=>.inl h,λ _ h=>.inl h,rfl,rfl⟩
theorem Ext.trans {φ D h w n φ1 D1 h1 w1 n1 φ2 D2 h2 w2 n2}(a:Ext φ D h w n φ1 D1 h1 w1 n1)(b:Ext φ1 D1 h1 w1 n1 φ2 D2 h2 w2 n2):Ext φ D h w n φ2 D2 h2 w2 n2 where
 le:=wo a.le b.le
 phi:=λ c x hx=>b.phi _ _ (a.phi _ _ hx)
 new:=λ c h0 h2=>by
  have ha:=a.le;have hb:=b.le
  cases h1:φ1 c with
  |none=>have:=b.new c h1 h2;omega
  |some x=>have:=a.new c h0 (by simp[h1]);omega
 eS:=λ c x hx=>b.eS _ _ (a.eS _ _ hx)
 size:=wo a.size b.size
 keep:=λ c hc hn=>by
  have hc1:=Nat.lt_of_lt_of_le hc a.size;rw[b.keep c hc1 λ d p hd hp e=>?_,a.keep c hc hn]
  rcases a.live d p hd hp with h|⟨b0,p0,x,y,z⟩
  ·omega
  exact hn b0 p0 x y (z.trans e)
 live:=λ c p hc hp=>by
  have ha:=a.size
  rcases b.live c p hc hp with h|⟨b0,p0,x,y,z⟩
  ·exact .inl ae
  rcases a.live b0 p0 x y with h|⟨b1,p1,x1,y1,z1⟩
  ·exact .inl ae
  exact .inr ⟨b1,p1,x1,y1,z1.trans z⟩
 kR:=λ c hc=>by
  have ha:=a.size
  rcases b.kR c hc with h|h|⟨b0,p0,x,y,z⟩
  ·exact a.kR c h
  ·exact .inr (.inl ae)
  rcases a.live b0 p0 x y with h|⟨b1,p1,x1,y1,z1⟩
  ·exact .inr (.inl ae)
  exact .inr (.inr ⟨b1,p1,x1,y1,z1.trans z⟩)
 hid := λ c hc=>by
  have ha:=a.le;have hb:=b.le
  rcases b.hid c hc with h|h
  ·rcases a.hid c h with h|h
   ·exact .inl h
   exact .inr ae
  exact .inr ae
 os:=b.os.trans a.os
 out:=b.out.trans a.out
theorem cU.left {φ n n1 n2}(h:cU φ n n2)(h2:n1<=n2):cU φ n n1:=λ b x y=>h b x ae
theorem cU.step {φ D h w n φ1 D1 h1 w1 n1 n2}(hf:cU φ n n2)(e:Ext φ D h w n φ1 D1 h1 w1 n1):cU φ1 n1 n2:=by
 intro b x y
 cases hb:φ1 b with
 |none=>rfl
 |some p =>
  have h0:=hf b (by have:=e.le;omega) y;have:=e.new b h0 (by simp[hb]);omega
def Hf.set (h:Hf)(b:Nat)(k:Option bG):Hf:=λ c=>if c=b then k else h c
def Ph.set (φ:Ph)(b:Nat)(p:Nat×Nat×Nat):Ph:=λ c=>if c=b then some p else φ c
def World.newObj (w:World)(o:Obj):World:={w with heap:=w.heap.push o}
def World.putObj (w:World)(c:Nat)(o:Obj):World:={w with heap:=w.heap.setIfInBounds c o}
theorem Ph.gV {φ:Ph}{n:Nat} {p}(hn:φ n=none):∀b x,φ b=some x->(φ.set n p) b=some x:=by
 intro b x hx;unfold Ph.set
 split
 ·subst b;simp[hn]at hx
 exact hx
theorem nF {φ D h w n}(hr:Rel φ D h w)(hf:cU φ n (n+1))(o:Obj)(cz:Nat)(k:bG)
  (hk:jc (φ.set n (w.heap.size,0,cz)) D (World.newObj w o) (w.heap.size,0,cz) k):
  Rel (φ.set n (w.heap.size,0,cz)) D (h.set n (some k)) (World.newObj w o) /\
   Ext φ D h w n (φ.set n (w.heap.size,0,cz)) D (h.set n (some k)) (World.newObj w o) (n+1):=by
 have hn:φ n=none:=hf n (aK _) ae;have hm:=Ph.gV (p:=(w.heap.size,0,cz)) hn
 have hhn:h n=none:=by
  cases hx:h n with
  |none=>rfl
  |some k=>obtain⟨p,hp,_⟩:=hr.blk n k hx;simp[hn]at hp
 have hold:∀c,c<w.heap.size->(World.newObj w o).heap[c]?=w.heap[c]?:=by
  intro c hc;simp[World.newObj,Array.getElem?_push,Nat.ne_of_lt hc]
 have hlt:∀b p,h b≠none->φ b=some p->p.1<w.heap.size:=by
  intro b p hb hp
  cases hx:h b with
  |none=>exact ar hx hb
  |some k=>obtain⟨q,hq,hl,_⟩:=hr.blk b k hx;rw[hp]at hq;injection hq with hq;subst hq;exact hl
 have hdl:∀c x,D c=some x->c<w.heap.size:=by
  intro c x hx;obtain⟨e,fr,hh⟩:=hr.eS.1 c x hx;exact(uJ.1 hh).1
 refine⟨⟨?_,?_,?_,?_⟩,⟨ae,hm,?_,λ _ _ h=>h,?_,?_,?_,λ _ h=>.inl h,?_,rfl,rfl⟩⟩
 ·intro b k' hb;unfold Hf.set at hb
  split at hb
  ·subst b;injection hb with hb;subst hb;exact⟨_,by simp[Ph.set],by simp[World.newObj],hk⟩
  obtain⟨p,hp,hl,hb'⟩:=hr.blk b k' hb;exact⟨p,hm _ _ hp,by simp[World.newObj];omega,hb'.mono hm (λ _ _ h=>h) (hold _ hl)⟩
 ·intro b c p q hb hc hp hq e;unfold Hf.set at hb hc;unfold Ph.set at hp hq
  by_cases e1:b=n<;>by_cases e2:c=n<;>simp[e1,e2]at hb hc hp hq ⊢
  ·have:=hlt c q hc hq;rw[<-hp]at e;simp at e;omega
  ·have:=hlt b p hb hp;rw[<-hq]at e;simp at e;omega
  exact hr.inj b c p q hb hc hp hq e
 ·intro b p hb hp;unfold Hf.set at hb;unfold Ph.set at hp
  by_cases e1:b=n<;>simp[e1]at hb hp
  ·rw[<-hp]
   cases hx:D w.heap.size with
   |none=>rfl
   |some x=>have:=hdl _ _ hx;omega
  exact hr.sep b p hb hp
 ·refine⟨λ c x hx=>?_,hr.eS.2⟩;obtain⟨e,fr,hh⟩:=hr.eS.1 c x hx;exact⟨e,fr,(hold c (hdl c x hx)).trans hh⟩
 ·intro b h0 h1;unfold Ph.set at h1
  by_cases e1:b=n
  ·omega
  simp[e1,h0]at h1
 ·simp[World.newObj]
 ·exact λ c hc _=>hold c hc
 ·intro b p hb hp;unfold Hf.set at hb;unfold Ph.set at hp
  by_cases e1:b=n<;>simp[e1]at hb hp
  ·exact .inl (by simp[<-hp])
  exact .inr ⟨b,p,hb,hp,rfl⟩
 intro b hb;unfold Hf.set at hb
 by_cases e1:b=n
 ·exact .inr ae
 simp[e1]at hb;exact .inl hb
theorem Rel.block {φ D h w b k}(hr:Rel φ D h w)(hb:h b=some k) {p}(hp:φ b=some p):p.1<w.heap.size/\jc φ D w p k:=by
 obtain⟨q,hq,hl,hk⟩:=hr.blk b k hb;rw[hp]at hq;injection hq with hq;subst hq;exact⟨hl,hk⟩
theorem Oy {φ D h w n b k p}(hr:Rel φ D h w)(hb:h b≠none)(hp:φ b=some p)(w':World)
  (hw:∀c,c≠p.1->w'.heap[c]?=w.heap[c]?)(hs:w'.heap.size=w.heap.size)(hos:w'.os=w.os)(hout:w'.output=w.output)
  (hk:jc φ D w' p k):Rel φ D (h.set b (some k)) w'/\Ext φ D h w n φ D (h.set b (some k)) w' n:=by
 have hlive:∀c,(h.set b (some k)) c≠none↔h c≠none:=by
  intro c;unfold Hf.set;by_cases e:c=b<;>simp[e,hb]
 refine⟨⟨?_,?_,?_,?_⟩,⟨aK _,λ _ _ h=>h,λ _ a c=>ar a c,λ _ _ h=>h,ae,?_,?_,λ _ h=>.inl h,?_,hos,hout⟩⟩
 ·intro c k' hc;unfold Hf.set at hc
  by_cases e:c=b
  ·simp[e]at hc;subst hc;subst e;refine⟨p,hp,?_,hk⟩
   cases hx:h c with
   |none=>exact ar hx hb
   |some k0=>rw[hs];exact(hr.block hx hp).1
  simp[e]at hc;obtain⟨q,hq,hl,hk'⟩:=hr.blk c k' hc;exact⟨q,hq,ae,hk'.mono (λ _ _ h=>h) (λ _ _ h=>h) (hw _ λ e'=>e (hr.inj c b q p (by simp[hc]) hb hq hp e'))⟩
 ·intro c d q r hc hd;exact hr.inj c d q r ((hlive c).1 hc) ((hlive d).1 hd)
 ·intro c q hc;exact hr.sep c q ((hlive c).1 hc)
 ·refine⟨λ c x hx=>?_,hr.eS.2⟩;obtain⟨e,fr,hh⟩:=hr.eS.1 c x hx;refine⟨e,fr,(hw c λ e'=>?_).trans hh⟩;have:=hr.sep b p hb hp;rw[<-e',hx]at this;cases this
 ·intro c _ hn;exact hw c λ e=>hn b p hb hp e.symm
 ·intro c q hc hq;exact .inr ⟨c,q,(hlive c).1 hc,hq,rfl⟩
 intro c hc;exact .inl ((hlive c).1 hc)
theorem V9 {φ D h w n b k p q}(hr:Rel φ D h w) (hf:cU φ n (n+1)) (hb:h b≠none) (hp:φ b=some p) (hq:q.1=p.1) (w':World)
  (hw:∀c,c≠p.1->w'.heap[c]?=w.heap[c]?)(hs:w'.heap.size=w.heap.size)(hos:w'.os=w.os)(hout:w'.output=w.output)
  (hk:jc (φ.set n q) D w' q k):
  Rel (φ.set n q) D ((h.set b none).set n (some k)) w'/\Ext φ D h w n (φ.set n q) D ((h.set b none).set n (some k)) w' (n+1):=by
 have hn:φ n=none:=hf n (aK _) ae;have hm:=Ph.gV (p:=q) hn
 have hhn:h n=none:=by
  cases hx:h n with
  |none=>rfl
  |some k=>obtain⟨p,hp,_⟩:=hr.blk n k hx;simp[hn]at hp
 have hbn:b≠n:=λ e=>by rw[e]at hb;exact hb hhn
 have hget:∀c,((h.set b none).set n (some k)) c=if c=n then some k else if c=b then none else h c:=λ c=>rfl
 refine⟨⟨?_,?_,?_,?_⟩,⟨ae,hm,?_,λ _ _ h=>h,ae,?_,?_,λ _ h=>.inl h,?_,hos,hout⟩⟩
 ·intro c k' hc;rw[hget]at hc
  by_cases e:c=n
  ·simp[e]at hc;subst hc;subst e;refine⟨q,by simp[Ph.set],?_,hk⟩
   cases hx:h b with
   |none=>exact ar hx hb
   |some k0=>rw[hs,hq];exact(hr.block hx hp).1
  by_cases e2:c=b
  ·simp[e2]at hc;omega
  simp[e,e2]at hc;obtain⟨r,hr',hl,hk'⟩:=hr.blk c k' hc;exact⟨r,hm _ _ hr',ae,hk'.mono hm (λ _ _ h=>h) (hw _ λ e'=>e2 (hr.inj c b r p (by simp[hc]) hb hr' hp e'))⟩
 ·intro c d r s hc hd hr' hs' e;rw[hget]at hc hd;unfold Ph.set at hr' hs'
  by_cases e1:c=n<;>by_cases e2:d=n<;>simp[e1,e2]at hc hd hr' hs' ⊢
  ·subst hr';have:=hr.inj b d p s hb hd.2 hp hs' (by rw[<-hq];exact e);omega
  ·subst hs';have:=hr.inj b c p r hb hc.2 hp hr' (by rw[<-hq];exact e.symm);omega
  exact hr.inj c d r s hc.2 hd.2 hr' hs' e
 ·intro c r hc hr';rw[hget]at hc;unfold Ph.set at hr'
  by_cases e1:c=n<;>simp[e1]at hc hr'
  ·subst hr';rw[hq];exact hr.sep b p hb hp
  exact hr.sep c r hc.2 hr'
 ·refine⟨λ c x hx=>?_,hr.eS.2⟩;obtain⟨e,fr,hh⟩:=hr.eS.1 c x hx;refine⟨e,fr,(hw c λ e'=>?_).trans hh⟩;have:=hr.sep b p hb hp;rw[<-e',hx]at this;cases this
 ·intro c h0 h1;unfold Ph.set at h1
  by_cases e1:c=n
  ·omega
  simp[e1,h0]at h1
 ·intro c _ hn';exact hw c λ e=>hn' b p hb hp e.symm
 ·intro c r hc hr';rw[hget]at hc;unfold Ph.set at hr'
  by_cases e1:c=n<;>simp[e1]at hc hr'
  ·subst hr';exact .inr ⟨b,p,hb,hp,hq.symm⟩
  exact .inr ⟨c,r,hc.2,hr',rfl⟩
 intro c hc;rw[hget]at hc
 by_cases e1:c=n
 ·exact .inr ae
 simp[e1]at hc;exact .inl hc.2
theorem V' {φ D h w n b}(hr:Rel φ D h w):Rel φ D (h.set b none) w/\Ext φ D h w n φ D (h.set b none) w n:=by
 have hl:∀c,(h.set b none) c≠none->h c≠none:=by
  intro c;unfold Hf.set;by_cases e:c=b<;>simp[e]
 refine⟨⟨?_,λ c d q r hc hd=>hr.inj c d q r (hl c hc) (hl d hd),λ c q hc=>hr.sep c q (hl c hc),hr.eS⟩,
  ⟨aK _,λ _ _ h=>h,λ _ a c=>ar a c,λ _ _ h=>h,aK _,λ _ _ _=>rfl,λ c q hc hq=>.inr ⟨c,q,hl c hc,hq,rfl⟩,λ _ h=>.inl h,λ c hc=>.inl (hl c hc),rfl,rfl⟩⟩
 intro c k hc;unfold Hf.set at hc
 by_cases e:c=b
 ·simp[e]at hc
 simp[e]at hc;exact hr.blk c k hc
end Go.Abs
namespace Go.Abs
open List
theorem db {α:Type}(n:Nat)(k:Nat->α):gC n k=k n:=by cases n<;>rfl
theorem mX {α:Type}(n:Int)(k:Int->α):Yx n k=k n:=by
 cases n with
 |ofNat m=>exact db m (λ m=>k (.ofNat m))
 |negSucc m=>exact db m (λ m=>k (.negSucc m))
@[simp] theorem anR {α:Type}(a b:α):amb true a b=a:=rfl
@[simp] theorem ama {α:Type}(a b:α):amb false a b=b:=rfl
@[simp] theorem Ub {α β:Type}(x:α)(d:β)(k:α->β):lR (some x) d k=k x:=rfl
@[simp] theorem ani {α β:Type}(d:β)(k:α->β):lR none d k=d:=rfl
namespace Tr
variable {α:Type}
@[simp] theorem get_nil (n:Nat):(Tr.nil:Tr α).get n=none:=rfl
theorem cZ (v:Option α) (l r:Tr α) (n:Nat):(Tr.node v l r).get n =
  if n=0 then v else if (n - 1) % 2=0 then l.get ((n - 1) / 2)else r.get ((n - 1) / 2):=by
 show Bool.rec (motive:=λ _=>Option α) (Bool.rec (motive:=λ _=>Option α) (r.get ((n - 1) / 2)) (l.get ((n - 1) / 2)) (Nat.beq ((n - 1) % 2) 0)) v (Nat.beq n 0)=_
 by_cases h:n=0
 ·subst h;rfl
 have h1:Nat.beq n 0=false:=by
  cases hb:Nat.beq n 0 with
  |false=>rfl
  |true=>exact ar (cT hb) h
 rw[h1,ai h]
 by_cases h2:(n - 1) % 2=0
 ·rw[aw h2];have h3:Nat.beq ((n - 1) % 2) 0=true:=by rw[h2];rfl
  rw[h3]
 rw[ai h2]
 have h3:Nat.beq ((n - 1) % 2) 0=false:=by
  cases hb:Nat.beq ((n - 1) % 2) 0 with
  |false=>rfl
  |true=>exact ar (cT hb) h2
 rw[h3]
theorem Gz (f n:Nat) (v:Option α):single (f+1) n v =
  if n=0 then .node v .nil .nil else if (n - 1) % 2=0 then .node none (single f ((n - 1) / 2) v) .nil else .node none .nil (single f ((n - 1) / 2) v):=by
 show Bool.rec (motive:=λ _=>Tr α) (Bool.rec (motive:=λ _=>Tr α) (.node none .nil (single f ((n - 1) / 2) v)) (.node none (single f ((n - 1) / 2) v) .nil) (Nat.beq ((n - 1) % 2) 0)) (.node v .nil .nil) (Nat.beq n 0)=_
 by_cases h:n=0
 ·subst h;rfl
 have h1:Nat.beq n 0=false:=by
  cases hb:Nat.beq n 0 with
  |false=>rfl
  |true=>exact ar (cT hb) h
 rw[h1,ai h]
 by_cases h2:(n - 1) % 2=0
 ·rw[aw h2,show Nat.beq ((n - 1) % 2) 0=true by rw[h2];rfl]
 rw[ai h2]
 have h3:Nat.beq ((n - 1) % 2) 0=false:=by
  cases hb:Nat.beq ((n - 1) % 2) 0 with
  |false=>rfl
  |true=>exact ar (cT hb) h2
 rw[h3]
theorem W4 (x:Option α) (l r:Tr α) (n:Nat) (v:Option α):(Tr.node x l r).put n v =
  if n=0 then .node v l r else if (n - 1) % 2=0 then .node x (l.put ((n - 1) / 2) v) r else .node x l (r.put ((n - 1) / 2) v):=by
 show Bool.rec (motive:=λ _=>Tr α) (Bool.rec (motive:=λ _=>Tr α) (.node x l (r.put ((n - 1) / 2) v)) (.node x (l.put ((n - 1) / 2) v) r) (Nat.beq ((n - 1) % 2) 0)) (.node v l r) (Nat.beq n 0)=_
 by_cases h:n=0
 ·subst h;rfl
 have h1:Nat.beq n 0=false:=by
  cases hb:Nat.beq n 0 with
  |false=>rfl
  |true=>exact ar (cT hb) h
 rw[h1,ai h]
 by_cases h2:(n - 1) % 2=0
 ·rw[aw h2,show Nat.beq ((n - 1) % 2) 0=true by rw[h2];rfl]
 rw[ai h2]
 have h3:Nat.beq ((n - 1) % 2) 0=false:=by
  cases hb:Nat.beq ((n - 1) % 2) 0 with
  |false=>rfl
  |true=>exact ar (cT hb) h2
 rw[h3]
theorem qH {n m:Nat}(hn:n≠0)(hm:m≠0)(h:(n - 1) % 2=(m - 1) % 2)(e:(n - 1) / 2=(m - 1) / 2):n=m:=ae
theorem sD:∀(f n m:Nat) (v:Option α),n<f->(single f n v).get m=if m=n then v else none
 |0,n,m,v,h=>ae
 |f + 1,n,m,v,h=>by
  rw[Gz]
  by_cases hn:n=0
  ·subst hn;rw[aw rfl,cZ]
   by_cases hm:m=0
   ·simp[hm]
   simp[hm]
  rw[ai hn];have hlt:(n - 1) / 2<f:=ae
  by_cases h2:(n - 1) % 2=0
  ·rw[aw h2,cZ]
   by_cases hm:m=0
   ·rw[aw hm,ai ae]
   rw[ai hm]
   by_cases h3:(m - 1) % 2=0
   ·rw[aw h3,sD f _ _ v hlt]
    by_cases e:m=n
    ·subst e;simp
    rw[ai e,ai (λ e'=>e (qH hm hn ae e'))]
   rw[ai h3,ai (λ e=>h3 (by subst e;exact h2))];rfl
  rw[ai h2,cZ]
  by_cases hm:m=0
  ·rw[aw hm,ai ae]
  rw[ai hm]
  by_cases h3:(m - 1) % 2=0
  ·rw[aw h3,ai (λ e=>h2 (by subst e;exact h3))];rfl
  rw[ai h3,sD f _ _ v hlt]
  by_cases e:m=n
  ·subst e;simp
  rw[ai e,ai (λ e'=>e (qH hm hn ae e'))]
theorem get_put (t:Tr α):∀(n m:Nat) (v:Option α),(t.put n v).get m=if m=n then v else t.get m:=by
 induction t with
 |nil=>intro n m v;show (single (n+1) n v).get m=_;rw[sD _ _ _ _ (Nat.lt_succ_self n)];rfl
 |node x l r il ir =>
  intro n m v;rw[W4]
  by_cases hn:n=0
  ·subst hn;rw[aw rfl,cZ,cZ]
   by_cases hm:m=0<;>simp[hm]
  rw[ai hn]
  by_cases h2:(n - 1) % 2=0
  ·rw[aw h2,cZ,cZ]
   by_cases hm:m=0
   ·rw[aw hm,aw hm,ai ae]
   rw[ai hm,ai hm]
   by_cases h3:(m - 1) % 2=0
   ·rw[aw h3,aw h3,il]
    by_cases e:m=n
    ·subst e;simp
    rw[ai e,ai (λ e'=>e (qH hm hn ae e'))]
   rw[ai h3,ai h3,ai (λ e=>h3 (by subst e;exact h2))]
  rw[ai h2,cZ,cZ]
  by_cases hm:m=0
  ·rw[aw hm,aw hm,ai ae]
  rw[ai hm,ai hm]
  by_cases h3:(m - 1) % 2=0
  ·rw[aw h3,aw h3,ai (λ e=>h2 (by subst e;exact h3))]
  rw[ai h3,ai h3,ir]
  by_cases e:m=n
  ·subst e;simp
  rw[ai e,ai (λ e'=>e (qH hm hn ae e'))]
theorem DK:∀(f n:Nat) (t:Tr α),n<f->(afO f n).f t=t.get n
 |0,n,t,h=>ae
 |f + 1,n,t,h=>by
  show (Bool.rec (motive:=λ _=>Gt α) (Bool.rec (motive:=λ _=>Gt α) ⟨goR (afO f ((n - 1) / 2))⟩ ⟨goL (afO f ((n - 1) / 2))⟩ (Nat.beq ((n - 1) % 2) 0)) ⟨hd⟩ (Nat.beq n 0):Gt α).f t=_
  by_cases hn:n=0
  ·subst hn
   cases t with
   |nil=>rfl
   |node v l r=>rfl
  have h1:Nat.beq n 0=false:=by
   cases hb:Nat.beq n 0 with
   |false=>rfl
   |true=>exact ar (cT hb) hn
  rw[h1];have hlt:(n - 1) / 2<f:=ae
  by_cases h2:(n - 1) % 2=0
  ·rw[show Nat.beq ((n - 1) % 2) 0=true by rw[h2];rfl]
   cases t with
   |nil=>rfl
   |node v l r=>rw[cZ,ai hn,aw h2];exact DK f _ l hlt
  have h3:Nat.beq ((n - 1) % 2) 0=false:=by
   cases hb:Nat.beq ((n - 1) % 2) 0 with
   |false=>rfl
   |true=>exact ar (cT hb) h2
  rw[h3]
  cases t with
  |nil=>rfl
  |node v l r=>rw[cZ,ai hn,ai h2];exact DK f _ r hlt
theorem jO:∀(f n:Nat) (v:Option α) (t:Tr α) (m:Nat),n<f->((ym f n).f v t).get m=if m=n then v else t.get m
 |0,n,v,t,m,h=>ae
 |f + 1, n, v,t,m,h=>by
  show ((Bool.rec (motive:=λ _=>Pt α) (Bool.rec (motive:=λ _=>Pt α) ⟨pR (ym f ((n - 1) / 2))⟩ ⟨pL (ym f ((n - 1) / 2))⟩ (Nat.beq ((n - 1) % 2) 0)) ⟨phd⟩ (Nat.beq n 0):Pt α).f v t).get m=_
  by_cases hn:n=0
  ·subst hn
   cases t with
   |nil=>show (Tr.node v .nil .nil).get m=_;rw[cZ];by_cases hm:m=0<;>simp[hm]
   |node x l r=>show (Tr.node v l r).get m=_;rw[cZ,cZ];by_cases hm:m=0<;>simp[hm]
  have h1 : Nat.beq n 0=false:=by
   cases hb:Nat.beq n 0 with
   |false=>rfl
   |true=>exact ar (cT hb) hn
  rw[h1];have hlt:(n - 1) / 2<f:=ae
  by_cases h2:(n - 1) % 2=0
  ·rw[show Nat.beq ((n - 1) % 2) 0=true by rw[h2];rfl]
   have key:∀(x:Option α) (l r:Tr α),(Tr.node x ((ym f ((n - 1) / 2)).f v l) r).get m=if m=n then v else (Tr.node x l r).get m:=by
    intro x l r;rw[cZ,cZ]
    by_cases hm:m=0
    ·rw[aw hm,aw hm,ai ae]
    rw[ai hm,ai hm]
    by_cases h3:(m - 1) % 2=0
    ·rw[aw h3,aw h3,jO f _ _ _ _ hlt]
     by_cases e:m=n
     ·subst e;simp
     rw[ai e,ai (λ e'=>e (qH hm hn ae e'))]
    rw[ai h3,ai h3,ai (λ e=>h3 (by subst e;exact h2))]
   cases t with
   |nil =>
    refine(key none .nil .nil).trans ?_;rw[cZ]
    by_cases e:m=n
    ·simp[e]
    rw[ai e,ai e];by_cases hm:m=0<;>simp[hm]
   |node x l r=>exact key x l r
  have h3':Nat.beq ((n - 1) % 2) 0=false:=by
   cases hb:Nat.beq ((n - 1) % 2) 0 with
   |false=>rfl
   |true=>exact ar (cT hb) h2
  rw[h3']
  have key:∀(x:Option α) (l r:Tr α),(Tr.node x l ((ym f ((n - 1) / 2)).f v r)).get m=if m=n then v else (Tr.node x l r).get m:=by
   intro x l r;rw[cZ,cZ]
   by_cases hm:m=0
   ·rw[aw hm,aw hm,ai ae]
   rw[ai hm,ai hm]
   by_cases h3:(m - 1) % 2=0
   ·rw[aw h3,aw h3,ai (λ e=>h2 (by subst e;exact h3))]
   rw[ai h3,ai h3,jO f _ _ _ _ hlt]
   by_cases e:m=n
   ·subst e;simp
   rw[ai e,ai (λ e'=>e (qH hm hn ae e'))]
  cases t with
  |nil =>
   refine(key none .nil .nil).trans ?_;rw[cZ]
   by_cases e:m=n
   ·simp[e]
   rw[ai e,ai e];by_cases hm:m=0<;>simp[hm]
  |node x l r=>exact key x l r
theorem bF (vs:List α):∀(i:Nat) (t:Tr α) (m:Nat),(bO vs i t).get m=if i<=m/\m<i+vs.length then vs[m - i]? else t.get m:=by
 induction vs with
 |nil=>intro i t m;show t.get m=_;rw[ai ah]
 |cons v r ih =>
  intro i t m;show (bO r (i+1) (t.put i (some v))).get m=_;rw[ih,get_put]
  by_cases h1:m=i
  ·subst h1;rw[ai ae,aw rfl,aw ah];simp
  by_cases h2:i+1<=m/\m<i+1+r.length
  ·rw[aw h2,aw (by simp;omega)];obtain⟨j,rfl⟩:∃j,m=i+1+j:=⟨m - (i+1),ae⟩;rw[show i+1+j - i=j+1 from by omega,show i+1+j - (i+1)=j from by omega];simp
  rw[ai h2,ai h1,ai (by simp;omega)]
end Tr
theorem nK {α:Type}(l:List α):∀i,nth l i=l[i]?:=by
 induction l with
 |nil=>intro i;rfl
 |cons a r ih=>intro i;cases i with
  |zero=>rfl
  |succ i=>exact(ih i).trans ah
theorem Un {α:Type}(l:List α):∀n,eC l n=n+l.length:=by
 induction l with
 |nil=>intro n;rfl
 |cons a r ih =>
  intro n;show gC (n+1) (eC r)=_;rw[db,ih];simp;omega
theorem bM {α:Type}(l:List α):eC l 0=l.length:=by rw[Un];simp
section
variable {α:Type}
theorem ajD (e:List α):tlO e=e.tail:=by cases e<;>rfl
theorem pX:∀(n:Nat)(l:List α),HZ n l=l.drop n
 |0,l=>rfl
 |n+1,l=>by
  cases l with
  |nil=>show ([]:List α)=_;simp
  |cons a r=>show HZ n r=_;rw[pX n];rfl
theorem xJ:∀(n:Nat)(l:List α),AD n l=l.take n
 |0,l=>by cases l<;>rfl
 |n+1,[]=>rfl
 |n+1,a::l=>by
  show a::AD n l=_;rw[xJ n];rfl
theorem O0:∀(l:List α)(n:Nat),lz l n=n+l.length
 |[],n=>rfl
 |a::l,n=>by
  show lz l (Nat.succ n)=_;rw[O0 l];simp;omega
theorem jy (l:List α):lz l 0=l.length:=by rw[O0];simp
theorem ae_ (l:List α):∀i,aks l i=l[i]?:=by
 induction l with
 |nil=>intro i;rfl
 |cons a r ih=>intro i;cases i with
  |zero=>rfl
  |succ i=>exact(ih i).trans ah
theorem yQ (vs:List α):∀(i:Nat)(t:Tr α)(m:Nat),(D5 vs i t).get m=if i<=m/\m<i+vs.length then none else t.get m:=by
 induction vs with
 |nil=>intro i t m;show t.get m=_;rw[ai ah]
 |cons v r ih =>
  intro i t m;show (D5 r (i+1) (t.put i none)).get m=_;rw[ih,Tr.get_put]
  by_cases h1:m=i
  ·subst h1;rw[ai ae,aw rfl,aw ah]
  by_cases h2:i+1<=m/\m<i+1+r.length
  ·rw[aw h2,aw (by simp;omega)]
  rw[ai h2,ai h1,ai (by simp;omega)]
theorem HH (vs:List α)(i:Nat)(t:Tr α)(m:Nat):(Y3 vs i t).get m=if i<=m/\m<i+vs.length then none else t.get m:=by
 cases t with
 |nil=>show (Tr.nil:Tr α).get m=_;simp
 |node v l r=>exact yQ vs i _ m
namespace Ov
@[simp] theorem get_nil (n:Nat):(Ov.nil:Ov α).get n=none:=rfl
theorem jY (s:Nat)(c:Tr (List α))(o:Tr α)(n:Nat):(Ov.ch s c o).get n=match o.get n with
  |some v=>some v
  |none=>match c.get (n / s)with
   |some l=>l[n % s]?
   |none=>none:=by
 show (match o.get n with
  |some v=>some v
  |none=>match c.get (n / s)with
   |some l=>aks l (n % s)
   |none=>none)=_
 cases o.get n with
 |some v=>rfl
 |none =>
  dsimp only
  cases c.get (n / s)with
  |none=>rfl
  |some l=>exact ae_ l _
theorem HG (t:Tr α)(n:Nat):(akq t).get n=t.get n:=by cases t<;>rfl
theorem qL {vs:List α}{i:Nat}{c:Tr (List α)}{o o':Tr α}{d:Option α}(m:Nat)(h1:0<vs.length)(h2:i % vs.length=0)(ho:∀m,o'.get m=if i<=m/\m<i+vs.length then none else o.get m)
  (hd:¬(i<=m/\m<i+vs.length)->(Ov.ch vs.length c o).get m=d):(Ov.ch vs.length (c.put (i / vs.length) (some vs)) o').get m=if i<=m/\m<i+vs.length then vs[m - i]? else d:=by
 have hdiv:vs.length*(i / vs.length)+i % vs.length=i:=Nat.div_add_mod i vs.length;rw[jY,ho,Tr.get_put]
 by_cases h:i<=m/\m<i+vs.length
 ·rw[aw h,aw h]
  have hq:m / vs.length=i / vs.length:=by
   apply Nat.div_eq_of_lt_le
   ·rw[Nat.mul_comm];omega
   rw[Nat.succ_mul,Nat.mul_comm];omega
  rw[aw hq];dsimp only
  have hm:m % vs.length=m - i:=by
   have:=Nat.div_add_mod m vs.length;rw[hq]at this;omega
  rw[hm]
 rw[ai h,ai h]
 have hq:m / vs.length≠i / vs.length:=by
  intro e;have:=Nat.div_add_mod m vs.length;rw[e]at this;have:=Nat.mod_lt m h1;omega
 rw[ai hq,<-hd h,jY]
theorem uT {s:Nat}(hs:0<s)(m:Nat):∀(f:Nat)(vs:List α)(i:Nat)(c:Tr (List α))(o:Tr α),f*s<=vs.length->i % s=0->(OE s f vs i c o).get m=if i<=m/\m<i+vs.length then vs[m - i]? else (Ov.ch s c o).get m
 |0,vs,i,c,o,_,_=>by
  show (Ov.ch s c (Tr.bO vs i o)).get m=_;rw[jY,jY,Tr.bF]
  by_cases h:i<=m/\m<i+vs.length
  ·rw[aw h,aw h,cX ae]
  rw[ai h,ai h]
 |f + 1,vs,i,c,o,hl,hi=>by
  have hl':f*s+s<=vs.length:=by rw[<-Nat.succ_mul];exact hl
  have ht:(AD s vs).length=s:=by rw[xJ,length_take];omega
  show (OE s f (HZ s vs) (i+s) (c.put (i / s) (some (AD s vs))) (Y3 (AD s vs) i o)).get m=_;rw[uT hs m f _ _ _ _ (by rw[pX,length_drop];omega) (by rw[Nat.add_mod_right];exact hi)];have hp:=qL (vs:=AD s vs) (i:=i) (c:=c) (o:=o) (o':=Y3 (AD s vs) i o) (d:=(Ov.ch s c o).get m) m (by rw[ht];exact hs) (by rw[ht];exact hi) (HH (AD s vs) i o) (λ _=>by rw[ht]);rw[ht]at hp;rw[hp,pX,length_drop]
  by_cases h1:i+s<=m/\m<i+s+(vs.length - s)
  ·rw[aw h1,aw ae,lj];congr 1;omega
  rw[ai h1]
  by_cases h2:i<=m/\m<i+s
  ·rw[aw h2,aw ae,xJ,getElem?_take];rw[aw ae]
  rw[ai h2,ai ae]
theorem bF (vs:List α) (i:Nat) (t:Ov α) (m:Nat):(bO vs i t).get m=if i<=m/\m<i+vs.length then vs[m - i]? else t.get m:=by
 unfold bO
 cases t with
 |nil =>
  dsimp only
  split
  ·rename_i hc;simp only[dS]at hc;rw[jy]at hc ⊢
   split
   ·rename_i hc2;simp only[dS]at hc2;refine(uT ae m (vs.length / 512) vs i .nil .nil (Nat.div_mul_le_self _ _) (cT hc2.2)).trans ?_;rw[jY];simp
   exact qL m (by have:=eF hc.1;omega) (cT hc.2) (o:=.nil) (λ m=>ah) (λ _=>by rw[jY];simp)
  rw[HG,Tr.bF];congr 1
 |tr v l r =>
  dsimp only
  split
  ·rename_i hc;simp only[dS]at hc;rw[jy]at hc ⊢;refine qL m (by have:=eF hc.1;omega) (cT hc.2) (o:=.node v l r) (yQ vs i _) (λ _=>?_);rw[jY];show _=(Tr.node v l r).get m
   cases (Tr.node v l r).get m<;>simp
  rw[HG,Tr.bF];rfl
 |ch s c o =>
  dsimp only
  split
  ·rename_i hc;simp only[dS]at hc;rw[jy]at hc;obtain⟨⟨h1,h2⟩,h3⟩:=hc;have h1:=cT h1;have h2:=eF h2;have h3:=cT h3;subst h1;exact qL m ae h3 (HH vs i o) (λ _=>rfl)
  split
  ·rename_i hc;simp only[dS]at hc;rw[jy]at hc ⊢;obtain⟨⟨h1,h2⟩,h3⟩:=hc;exact uT (eF h2) m _ vs i c o (Nat.div_mul_le_self _ _) (cT h3)
  rw[jY,jY,Tr.bF]
  by_cases h:i<=m/\m<i+vs.length
  ·rw[aw h,aw h,cX ae]
  rw[ai h,ai h]
theorem yn (i:Nat) (t:Ov α):bO [] i t=t:=by
 cases t with
 |nil=>rfl
 |tr v l r=>rfl
 |ch s c o =>
  unfold bO;dsimp only
  split
  ·rename_i hc;simp only[dS]at hc;have h1:0=s:=cT hc.1.1;have h2:=eF hc.1.2;omega
  split
  ·rename_i hc;simp only[dS]at hc;have h1:s<=0:=eF hc.1.1;have h2:=eF hc.1.2;omega
  rfl
end Ov
end
theorem cD (u:Nat)(z bs:List AV)(t:Ov AV)(i:Nat):gZ u z bs t i =
  if i<u then (match t.get i with|some v=>some v|none=>match bs[i]? with|some v=>some v|none=>dflt z i)else none:=by
 unfold gZ
 by_cases h:i<u
 ·have hb:Nat.blt i u=true:=wq h;rw[hb,aw h,nK]
  cases t.get i<;>simp
  cases bs[i]?<;>simp
 have hb:Nat.blt i u=false:=by
  cases hh:Nat.blt i u with
  |false=>rfl
  |true=>exact ar (eF hh) ae
 rw[hb,ai h];rfl
theorem qK {u z bs t i v}(h:gZ u z bs t i=some v):i<u:=by
 rw[cD]at h
 by_cases h1:i<u
 ·exact h1
 rw[ai h1]at h;cases h
theorem sy (u:Nat) (z bs:List AV) (t:Ov AV) (o:Nat):∀(n:Nat) (acc l:List AV),vR u z bs t o n acc=some l ->
  ∃l0,l=l0++acc/\l0.length=n/\∀i,i<n->gZ u z bs t (o+i)=l0[i]?
 |0,acc,l,h=>by
  injection h with h;exact⟨[],by simp[h],rfl,λ i hi=>ae⟩
 |n + 1,acc,l,h=>by
  have h':lR (gZ u z bs t (o+n)) none (λ v=>vR u z bs t o n (v::acc))=some l:=h
  cases hg:gZ u z bs t (o+n)with
  |none=>rw[hg]at h';cases h'
  |some v =>
   rw[hg]at h';obtain⟨l0,h1,h2,h3⟩:=sy u z bs t o n (v::acc) l h';refine⟨l0++[v],by simp[h1],by simp[h2],λ i hi=>?_⟩
   by_cases e:i<n
   ·rw[getElem?_append_left ae];exact h3 i e
   have:i=n:=ae;subst this;rw[getElem?_append_right ae];simp[h2,hg]
theorem yT {z bs:List AV}{x:AV}(h:yU z bs=some x):z=[x]/\bs=[]:=by
 unfold yU at h
 split at h
 ·split at h
  ·injection h with h;subst h;exact⟨rfl,rfl⟩
  cases h
 cases h
theorem xX (a:AV):∀n,(rpA a n).length=n/\∀i,i<n->(rpA a n)[i]?=some a
 |0=>⟨rfl,λ i hi=>ae⟩
 |n+1=>by
  obtain⟨h1,h2⟩:=xX a n;have e:rpA a (n+1)=a::rpA a n:=rfl;rw[e];refine⟨by simp[h1],λ i hi=>?_⟩
  cases i with
  |zero=>rfl
  |succ i=>simpa using h2 i ae
theorem rG (t : Tr AV) (fill:Option AV):∀(n i:Nat) (e l:List AV),Au t fill n i e=some l->l.length=n/\∀j,j<n->∃x,l[j]?=some x/\(t.get (i+j)=some x∨(t.get (i+j)=none/\(e[j]?=some x∨(e[j]?=none/\fill=some x))))
 |0,i,e,l,h=>by
  have h:some []=some l:=h;injection h with h;subst h;exact⟨rfl,λ i hi=>ae⟩
 |n + 1, i, e,l,h=>by
  have h:lR (lR (t.get i) (lR (hdL e) fill some) some) none (λ v=>lR (Au t fill n (i+1) (tlO e)) none λ l=>some (v::l))=some l:=h
  cases hv:lR (t.get i) (lR (hdL e) fill some) some with
  |none=>rw[hv]at h;cases h
  |some v =>
   rw[hv]at h;have h:lR (Au t fill n (i+1) (tlO e)) none (λ l=>some (v::l))=some l:=h
   cases hs:Au t fill n (i+1) (tlO e)with
   |none=>rw[hs]at h;cases h
   |some l1 =>
    rw[hs]at h;have h:some (v::l1)=some l:=h;injection h with h;subst h;obtain⟨h1,h2⟩:=rG t fill n (i+1) (tlO e) l1 hs;refine⟨by simp[h1],λ j hj=>?_⟩
    cases j with
    |zero =>
     refine⟨v,rfl,?_⟩
     cases ht:t.get i with
     |some y=>rw[ht]at hv;exact .inl (by simpa[ht]using hv)
     |none =>
      rw[ht]at hv;have hv:lR (hdL e) fill some=some v:=hv;refine .inr ⟨ah,?_⟩
      cases e with
      |nil=>exact .inr ⟨rfl,hv⟩
      |cons y e =>
       have hv:some y=some v:=hv;exact .inl (by simpa using hv)
    |succ j =>
     obtain⟨x,h3,h4⟩:=h2 j ae;rw[show i+1+j=i+(j+1) by omega]at h4;refine⟨x,by simpa using h3,?_⟩;rw[ajD]at h4;simpa using h4
theorem P3 (b:List AV):∀a,agl a b=a++b
 |[]=>rfl
 |x::a=>by
  show x::agl a b=_;rw[P3 b a];rfl
theorem rT {l:List AV}{r k:Nat}(h:Nat.beq (lz (AD k (HZ r l)) 0) k=true):(AD k (HZ r l)).length=k/\∀j,j<k->∃x,(AD k (HZ r l))[j]?=some x/\l[r+j]?=some x:=by
 have h:=cT h;rw[jy]at h;refine⟨h,λ j hj=>?_⟩;have e:=cX (l:=AD k (HZ r l)) (i:=j) ae
 have e2:(AD k (HZ r l))[j]?=l[r+j]?:=by
  rw[xJ,pX,getElem?_take,aw hj,lj]
 exact⟨_,e,by rw[<-e2];exact e⟩
theorem yP (fill:Option AV) (base:List AV) (s:Nat) (c:Tr (List AV)) (hs:0<s):∀(fuel o n:Nat) (l:List AV),HF fill base s c fuel o n=some l->l.length=n/\∀j,j<n->∃x,l[j]?=some x/\(Jh fill base s c ((o+j) / s))[(o+j) % s]?=some x
 |0,o,n,l,h=>by cases h
 |f + 1,o,n,l,h=>by
  have hmod:o % s<s:=Nat.mod_lt _ hs;have e:=Nat.div_add_mod o s
  have loc:∀j,o % s+j<s->(o+j) / s=o / s/\(o+j) % s=o % s+j:=by
   intro j hj
   have hq:(o+j) / s=o / s:=by
    apply Nat.div_eq_of_lt_le
    ·rw[Nat.mul_comm];omega
    rw[Nat.succ_mul,Nat.mul_comm];omega
   refine⟨hq,?_⟩;have e2:=Nat.div_add_mod (o+j) s;rw[hq]at e2;omega
  replace h:(match Nat.ble n (s - o % s)with
   |true=>match AD n (HZ (o % s) (Jh fill base s c (o / s)))with
    |l=>match Nat.beq (lz l 0) n with
     |true=>some l
     |false=>none
   |false=>match AD (s - o % s) (HZ (o % s) (Jh fill base s c (o / s)))with
    |l => match Nat.beq (lz l 0) (s - o % s)with
     |true=>match HF fill base s c f (o+(s - o % s)) (n - (s - o % s))with
      |some r=>some (agl l r)
      |none=>none
     |false=>none)=some l:=h
  split at h
  ·rename_i hb;have hle:=eF hb;dsimp only at h
   split at h
   ·rename_i hc;injection h with h;subst h;obtain⟨h1,h2⟩:=rT hc;refine⟨h1,λ j hj=>?_⟩;obtain⟨x,h3,h4⟩:=h2 j hj;obtain⟨h5,h6⟩:=loc j ae;exact⟨x,h3,by rw[h5,h6];exact h4⟩
   cases h
  rename_i hb
  have hgt:s - o % s<n:=by
   cases Nat.lt_or_ge (s - o % s) n with
   |inl h=>exact h
   |inr h=>rw[wq h]at hb;cases hb
  dsimp only at h
  split at h
  ·rename_i hc
   split at h
   ·rename_i r hr;injection h with h;subst h;obtain⟨h1,h2⟩:=rT hc;obtain⟨i1,i2⟩:=yP fill base s c hs f _ _ r hr;rw[P3];refine⟨by rw[length_append,h1,i1];omega,λ j hj=>?_⟩
    by_cases hlt:j<s - o % s
    ·rw[getElem?_append_left ae];obtain⟨x,h3,h4⟩:=h2 j hlt;obtain⟨h5,h6⟩:=loc j ae;exact⟨x,h3,by rw[h5,h6];exact h4⟩
    rw[getElem?_append_right ae,h1];obtain⟨x,h3,h4⟩:=i2 (j - (s - o % s)) ae;rw[show o+(s - o % s)+(j - (s - o % s))=o+j by omega]at h4;exact⟨x,h3,h4⟩
   cases h
  cases h
theorem Yu {u s:Nat}{z bs:List AV}{c:Tr (List AV)}{m:Nat}{x:AV}(hm:m<u)(hs:0<s)(h:(Jh (yU z bs) bs s c (m / s))[m % s]?=some x):gZ u z bs (.ch s c .nil) m=some x:=by
 rw[cD,aw hm,Ov.jY];simp only[Tr.get_nil];unfold Jh at h
 split at h
 ·rename_i l hl;rw[hl];dsimp only;rw[h]
 rename_i hl;rw[hl];dsimp only
 split at h
 ·rename_i y hy;obtain⟨e1,e2⟩:=yT hy;rw[(xX y s).2 _ (Nat.mod_lt _ hs)]at h;injection h with h;subst h;rw[e1,e2];rfl
 rw[pX,lj]at h;have e:=Nat.div_add_mod m s;have h:bs[m / s*s+m % s]?=some x:=h;rw[Nat.mul_comm,e]at h;rw[h]
theorem GW {n r:Nat}{e l:List AV}(h:yq n r e=some l):l.length=n/\∀j,j<n->∃x,l[j]?=some x/\e[r+j]?=some x:=by
 unfold yq at h;dsimp only at h
 split at h
 ·rename_i hc;injection h with h;subst h;exact rT hc
 cases h
theorem kW {u z bs t o n l}(hinv:t=.nil->z=[]->bs.length=u) (h:jN u z bs t o n=some l):
  l.length=n/\∀i,i<n->gZ u z bs t (o+i)=l[i]?:=by
 have key:∀t,vR u z bs t o n []=some l->l.length=n/\∀i,i<n->gZ u z bs t (o+i)=l[i]?:=by
  intro t h;obtain⟨l0,h1,h2,h3⟩:=sy u z bs t o n [] l h;simp at h1;subst h1;exact⟨h2,h3⟩
 have orr:∀(r:Option (List AV)) (z bs:List AV) (t:Ov AV),(∀l,r=some l->l.length=n/\∀i,i<n->gZ u z bs t (o+i)=l[i]?)->orR r u z bs t o n=some l->l.length=n/\∀i,i<n->gZ u z bs t (o+i)=l[i]?:=by
  intro r z bs t hr h;unfold orR at h
  split at h
  ·rename_i l1;injection h with h;subst h;exact hr _ rfl
  obtain⟨l0,h1,h2,h3⟩:=sy u z bs t o n [] l h;simp at h1;subst h1;exact⟨h2,h3⟩
 unfold jN at h
 split at h
 ·split at h
  ·split at h
   ·rename_i hb;simp at hb;injection h with h;subst h;have hl:=hinv rfl rfl;obtain⟨rfl,rfl⟩:=hb;refine⟨hl,λ i hi=>?_⟩;rw[cD,aw ae];simp;rw[cX ae]
   split at h
   ·rename_i hle;have hle:o+n<=u:=eF hle;refine orr _ _ _ _ (λ l1 hl1=>?_) h;obtain⟨h1,h2⟩:=GW hl1;refine⟨h1,λ i hi=>?_⟩;obtain⟨x,h3,h4⟩:=h2 i hi;rw[h3,cD,aw ae,Ov.get_nil];dsimp only;rw[h4]
   cases h
  split at h
  ·rename_i x hx
   split at h
   ·rename_i hle;have hle:o+n<=u:=eF hle;injection h with h;subst h;obtain⟨e1,e2⟩:=yT hx;rw[e1,e2];obtain⟨h1,h2⟩:=xX x n;refine⟨h1,λ i hi=>?_⟩;rw[h2 i hi,cD,aw ae];rfl
   cases h
  exact key _ h
 ·rename_i x lt rt
  split at h
  ·rename_i hle;have hle:o+n<=u:=eF hle;refine orr _ _ _ _ (λ l1 hl1=>?_) h;obtain⟨h1,h2⟩:=rG _ _ _ _ _ _ hl1;refine⟨h1,λ i hi=>?_⟩;obtain⟨y,h3,h4⟩:=h2 i hi;rw[h3,cD,aw ae]
   show (match (Tr.node x lt rt).get (o+i)with
    |some v=>some v
    |none=>match bs[o+i]? with
     |some v=>some v
     |none=>dflt z (o+i))=some y
   rw[pX,lj]at h4
   rcases h4 with h4|⟨h4,h5|⟨h5,h6⟩⟩
   ·rw[h4]
   ·rw[h4,h5]
   rw[h4,h5];dsimp only;unfold ahi at h6
   split at h6
   ·injection h6 with h6;subst h6;rfl
   cases h6
  cases h
 rename_i s c p
 split at h
 ·rename_i hle;have hle:o+n<=u:=eF hle
  split at h
  ·rename_i hs;have hs:0<s:=eF hs;have e:=Nat.div_add_mod o s
   have loc:∀j,o % s+j<s->(o+j) / s=o / s/\(o+j) % s=o % s+j:=by
    intro j hj
    have hq:(o+j) / s=o / s:=by
     apply Nat.div_eq_of_lt_le
     ·rw[Nat.mul_comm];omega
     rw[Nat.succ_mul,Nat.mul_comm];omega
    refine⟨hq,?_⟩;have e2:=Nat.div_add_mod (o+j) s;rw[hq]at e2;omega
   have mk:∀l1,HF (yU z bs) bs s c (Nat.add (Nat.div n s) 2) o n=some l1->l1.length=n/\∀i,i<n->gZ u z bs (.ch s c .nil) (o+i)=l1[i]?:=by
    intro l1 hg;obtain⟨h1,h2⟩:=yP _ _ _ _ hs _ _ _ _ hg;refine⟨h1,λ i hi=>?_⟩;obtain⟨x,h3,h4⟩:=h2 i hi;rw[h3];exact Yu ae hs h4
   split at h
   ·refine orr _ _ _ _ (λ l1 hl1=>?_) h
    split at hl1
    ·rename_i hc;simp only[dS]at hc;have c1:o % s=0:=cT hc.1;have c2:n=s:=cT hc.2
     split at hl1
     ·rename_i l0 hl0;have hl0:c.get (o / s)=some l0:=hl0
      split at hl1
      ·rename_i hc3;have c3:=cT hc3;rw[jy]at c3;injection hl1 with hl1;subst hl1;refine⟨c3,λ i hi=>?_⟩;obtain⟨h3,h4⟩:=loc i ae;rw[cD,aw ae,Ov.jY,h3,h4,hl0,c1,q7];simp only[Tr.get_nil];rw[cX ae]
      cases hl1
     exact mk _ hl1
    exact mk _ hl1
   rename_i v lt rt;refine orr _ _ _ _ (λ l1 hl1=>?_) h
   split at hl1
   ·rename_i hc;have hc:o % s+n<=s:=eF hc
    split at hl1
    ·rename_i e0 he0;have he0:c.get (o / s)=some e0:=he0;obtain⟨h1,h2⟩:=rG _ _ _ _ _ _ hl1;refine⟨h1,λ i hi=>?_⟩;obtain⟨y,h3,h4⟩:=h2 i hi;obtain⟨h5,h6⟩:=loc i ae;rw[h3,cD,aw ae,Ov.jY,h5,h6,he0];rw[pX,lj]at h4;have h4:(Tr.node v lt rt).get (o+i)=some y∨((Tr.node v lt rt).get (o+i)=none/\(e0[o % s+i]?=some y∨(e0[o % s+i]?=none/\(none:Option AV)=some y))):=h4
     rcases h4 with h4|⟨h4,h5|⟨_,h6⟩⟩
     ·rw[h4]
     ·rw[h4];dsimp only;rw[h5]
     cases h6
    cases hl1
   cases hl1
  exact key _ h
 cases h
end Go.Abs
