/- A part. -/
import Derived.Calls
import Derived.LoopN
import Derived.OrdersIn
noncomputable section
namespace Go.Abs
open List
theorem ah {c:Prop}{h:Decidable c}(k:¬c){α:Sort _}{t e:α}:(if c then t else e)=e:=if_neg k
theorem ao {c:Prop}{h:Decidable c}(k:c){α:Sort _}{t e:α}:(if c then t else e)=t:=if_pos k
theorem ai {a b:Prop}(h:a)(k:¬a):b:=absurd h k
theorem aP(n:Nat):n<=n:=Nat.le_refl n
theorem b9{n m:Nat}(h:n.beq m=true):n=m:=Nat.eq_of_beq_eq_true h
theorem dE{n m:Nat}(h:n.ble m=true):n<=m:=Nat.le_of_ble_eq_true h
theorem uv{n m:Nat}(h:n<=m):n.ble m=true:=Nat.ble_eq_true_of_le h
theorem bJ{α β:Type}(a:α)(w:World)(f:α->World->Result β):(Result.ok a w).andThen f=f a w:=rfl
theorem cE{α:Type _}{l:List α}{i:Nat}(h:i<l.length):l[i]?=some l[i]:=getElem?_eq_getElem h
theorem b6{α:Type _}{l:List α}{n:Nat}(h:n<l.length):l[n]∈l:=getElem_mem h
theorem fu{α:Type _}{b:α}{β:Type _}{x:Option β}{f:β->Option α}:x.bind f=some b↔∃a,x=some a/\f a=some b:=Option.bind_eq_some_iff
theorem bM{α β:Type}(P:Program)(w:World)(x:Sem α)(f:α->Sem β):Sem.run P (x>>=f) w=(Sem.run P x w).andThen λ a k=>Sem.run P (f a) k:=Sem.run_bind P w x f
theorem cD{α:Type}(P:Program)(w:World)(a:α):Sem.run P (pure a) w=Result.ok a w:=Sem.run_pure P w a
theorem eZ{α:Type _}{i:Nat}{l:List α}(h:l.length<=i):take i l=l:=take_of_length_le h
theorem dN(a b:Bool):((a&&b)=true)=(a=true/\b=true):=Bool.and_eq_true a b
theorem iD{α β:Type _}:(bind:Option α->(α->Option β)->Option β)=Option.bind:=Option.bind_eq_bind
theorem km{α:Type _}{i:Nat}{l:List α}(h:i<l.length):List.drop i l=l[i]::List.drop (i+1) l:=drop_eq_getElem_cons h
theorem gp{α:Type _}{a b:α}:a∈[b]↔a=b:=mem_singleton
theorem pS{α:Type _}{i:Nat}{a:α}{l:List α}:l[i]?=some a↔∃h:i<l.length,l[i]=a:=List.getElem?_eq_some_iff
theorem iV{α:Type _}{l:List α}{i j:Nat}:(List.drop i l)[j]?=l[i+j]?:=getElem?_drop
theorem Ai{n m:Nat}(k:Nat)(h:n<=m):n*k<=m*k:=Nat.mul_le_mul_right k h
theorem qw(n:Nat):0+n=n:=Nat.zero_add n
theorem uo{n m k:Nat}(h:n<=m)(l:m<=k):n<=k:=Nat.le_trans h l
theorem nJ{α:Type _}{i:Nat}{a:α}{l:Array α}:l[i]?=some a↔∃h:i<l.size,l[i]=a:=Array.getElem?_eq_some_iff
inductive Tr (α:Type) where
 |nil
 |node (v:Option α) (l r:Tr α)
namespace Tr
variable {α:Type}
def get (t:Tr α):Nat->Option α:=
 Tr.rec (motive:=λ _=>Nat->Option α) (λ _=>none) (λ v _ _ gl gr n =>
  Bool.rec (motive:=λ _=>Option α) (Bool.rec (motive:=λ _=>Option α) (gr (Nat.div (Nat.sub n 1) 2)) (gl (Nat.div (Nat.sub n 1) 2)) (Nat.beq (Nat.mod (Nat.sub n 1) 2) 0)) v (Nat.beq n 0)) t
def single (f:Nat):Nat->Option α->Tr α:=
 Nat.rec (motive:=λ _=>Nat->Option α->Tr α) (λ _ _=>.nil) (λ _ ih n v =>
  Bool.rec (motive:=λ _=>Tr α) (Bool.rec (motive:=λ _=>Tr α) (.node none .nil (ih (Nat.div (Nat.sub n 1) 2) v)) (.node none (ih (Nat.div (Nat.sub n 1) 2) v) .nil) (Nat.beq (Nat.mod (Nat.sub n 1) 2) 0)) (.node v .nil .nil) (Nat.beq n 0)) f
def put (t:Tr α):Nat->Option α->Tr α:=
 Tr.rec (motive:=λ _=>Nat->Option α->Tr α) (λ n v=>single (Nat.succ n) n v) (λ x l r pl pr n v =>
  Bool.rec (motive:=λ _=>Tr α) (Bool.rec (motive:=λ _=>Tr α) (.node x l (pr (Nat.div (Nat.sub n 1) 2) v)) (.node x (pl (Nat.div (Nat.sub n 1) 2) v) r) (Nat.beq (Nat.mod (Nat.sub n 1) 2) 0)) (.node v l r) (Nat.beq n 0)) t
structure Gt (α:Type) where
 f:Tr α->Option α
structure Pt (α:Type) where
 f:Option α->Tr α->Tr α
def hd (t:Tr α):Option α:=Tr.rec (motive:=λ _=>Option α) none (λ v _ _ _ _=>v) t
def goL (k:Gt α)(t:Tr α):Option α:=Tr.rec (motive:=λ _=>Option α) none (λ _ l _ _ _=>k.f l) t
def goR (k:Gt α)(t:Tr α):Option α:=Tr.rec (motive:=λ _=>Option α) none (λ _ _ r _ _=>k.f r) t
def abT (f:Nat):Nat->Gt α:=
 Nat.rec (motive:=λ _=>Nat->Gt α) (λ _=>⟨λ _=>none⟩) (λ _ ih n =>
  Bool.rec (motive:=λ _=>Gt α) (Bool.rec (motive:=λ _=>Gt α) ⟨goR (ih (Nat.div (Nat.sub n 1) 2))⟩ ⟨goL (ih (Nat.div (Nat.sub n 1) 2))⟩ (Nat.beq (Nat.mod (Nat.sub n 1) 2) 0)) ⟨hd⟩ (Nat.beq n 0)) f
def phd (v:Option α)(t:Tr α):Tr α:=Tr.rec (motive:=λ _=>Tr α) (.node v .nil .nil) (λ _ l r _ _=>.node v l r) t
def pL (k:Pt α)(v:Option α)(t:Tr α):Tr α:=Tr.rec (motive:=λ _=>Tr α) (.node none (k.f v .nil) .nil) (λ x l r _ _=>.node x (k.f v l) r) t
def pR (k:Pt α)(v:Option α)(t:Tr α):Tr α:=Tr.rec (motive:=λ _=>Tr α) (.node none .nil (k.f v .nil)) (λ x l r _ _=>.node x l (k.f v r)) t
def vW (f:Nat):Nat->Pt α:=
 Nat.rec (motive:=λ _=>Nat->Pt α) (λ _=>⟨λ _ t=>t⟩) (λ _ ih n =>
  Bool.rec (motive:=λ _=>Pt α) (Bool.rec (motive:=λ _=>Pt α) ⟨pR (ih (Nat.div (Nat.sub n 1) 2))⟩ ⟨pL (ih (Nat.div (Nat.sub n 1) 2))⟩ (Nat.beq (Nat.mod (Nat.sub n 1) 2) 0)) ⟨phd⟩ (Nat.beq n 0)) f
def bD (vs:List α):Nat->Tr α->Tr α:=
 List.rec (motive:=λ _=>Nat->Tr α->Tr α) (λ _ t=>t) (λ v _ ih i t=>ih (Nat.succ i) (t.put i (some v))) vs
end Tr
inductive Ov (α:Type) where
 |nil
 |tr (v:Option α) (l r:Tr α)
 |ch (s:Nat) (c:Tr (List α)) (o:Tr α)
section
variable {α:Type}
def tlO (e:List α):List α:=List.rec (motive:=λ _=>List α) [] (λ _ t _=>t) e
def Ft (n:Nat):List α->List α:=Nat.rec (motive:=λ _=>List α->List α) (λ l=>l) (λ _ ih l=>List.rec (motive:=λ _=>List α) [] (λ _ t _=>ih t) l) n
def yF (n:Nat):List α->List α:=Nat.rec (motive:=λ _=>List α->List α) (λ _=>[]) (λ _ ih l=>List.rec (motive:=λ _=>List α) [] (λ a t _=>a::ih t) l) n
def agG (l:List α):Nat->Option α:=
 List.rec (motive:=λ _=>Nat->Option α) (λ _=>none) (λ a _ ih i=>Nat.rec (motive:=λ _=>Option α) (some a) (λ j _=>ih j) i) l
def ky (l:List α):Nat->Nat:=List.rec (motive:=λ _=>Nat->Nat) (λ n=>n) (λ _ _ ih n=>Nat.rec (motive:=λ _=>Nat) (ih (Nat.succ n)) (λ _ _=>ih (Nat.succ n)) (Nat.succ n)) l
def Bm (vs:List α):Nat->Tr α->Tr α:=
 List.rec (motive:=λ _=>Nat->Tr α->Tr α) (λ _ t=>t) (λ _ _ ih i t=>ih (Nat.succ i) (t.put i none)) vs
def UH (vs:List α)(i:Nat)(t:Tr α):Tr α:=match t with
 |.nil=>.nil
 |.node v l r=>Bm vs i (.node v l r)
end
namespace Ov
variable {α:Type}
def agF:Tr α->Ov α
 |.nil=>.nil
 |.node v l r=>.tr v l r
def get:Ov α->Nat->Option α
 |.nil,_=>none
 |.tr v l r,n=>(Tr.node v l r).get n
 |.ch s c o,n=>match o.get n with
  |some v=>some v
  |none=>match c.get (Nat.div n s)with
   |some l=>agG l (Nat.mod n s)
   |none=>none
def KF (s:Nat) (f:Nat):List α->Nat->Tr (List α)->Tr α->Ov α:=
 Nat.rec (motive:=λ _=>List α->Nat->Tr (List α)->Tr α->Ov α) (λ vs i c o=>.ch s c (Tr.bD vs i o))
  (λ _ ih vs i c o=>ih (Ft s vs) (Nat.add i s) (c.put (Nat.div i s) (some (yF s vs))) (UH (yF s vs) i o)) f
def bD (vs:List α) (i:Nat) (t:Ov α):Ov α:=match t with
 |.nil=>match Nat.ble 48 (ky vs 0)&&Nat.beq (Nat.mod i (ky vs 0)) 0 with
  |true=>match Nat.ble 1024 (ky vs 0)&&Nat.beq (Nat.mod i 512) 0 with
   |true=>KF 512 (Nat.div (ky vs 0) 512) vs i .nil .nil
   |false=>.ch (ky vs 0) (Tr.put .nil (Nat.div i (ky vs 0)) (some vs)) .nil
  |false=>agF (Tr.bD vs i .nil)
 |.tr v l r=>match Nat.ble 48 (ky vs 0)&&Nat.beq (Nat.mod i (ky vs 0)) 0 with
  |true=>.ch (ky vs 0) (Tr.put .nil (Nat.div i (ky vs 0)) (some vs)) (Bm vs i (.node v l r))
  |false=>agF (Tr.bD vs i (.node v l r))
 |.ch s c o=>match Nat.beq (ky vs 0) s&&Nat.ble 1 s&&Nat.beq (Nat.mod i s) 0 with
  |true=>.ch s (c.put (Nat.div i s) (some vs)) (UH vs i o)
  |false=>match Nat.ble s (ky vs 0)&&Nat.ble 1 s&&Nat.beq (Nat.mod i s) 0 with
   |true=>KF s (Nat.div (ky vs 0) s) vs i c o
   |false=>.ch s c (Tr.bD vs i o)
end Ov
inductive AV where
 |int (k:IntKind) (n:Int)
 |bool (b:Bool)
 |str (l:List Nat)
 |ptr (b o:Nat)
 |sl (b o len sz:Nat)
 |agg (cs:List AV) (n:Nat)
 |aX (vs:List AV)
 |kG (t:TypeId) (v:AV)
 |fn (f:Fn) (first cap:List AV)
 |map (b:Nat)
 |ds (cs:List AV) (len sz:Nat)
 |dp (cs:List AV)
 |jv (b:Nat)
 |al (v:Value)
def atom:Value->Bool
 |.pointer none|.slice none 0 0|.nilIface|.nilFunc|.map none=>true
 |_=>false
def AV.one:AV->Bool
 |.agg _ _|.aX _=>false
 |_=>true
def AV.cells:AV->List AV
 |.agg cs _=>cs
 |v=>[v]
def AV.len:AV->Nat
 |.agg _ n=>n
 |_=>1
inductive nz where
 |normal|exit (id:Nat)|ret|panic (v:AV)
inductive Dm where
 |dT (b:Nat)
 |fn (f:FuncId) (args:List AV)
inductive UM where
 |ret
 |qX (v:AV) (recovered:Bool)
inductive br where
 |cells (used:Nat) (z base:List AV) (t:Ov AV)
 |map (es:List (AV×AV×Nat)) (clock:Nat)
 |loop (st:LoopState) (jump:nz) (nt:Nat) (F:Tr AV) (ps:List Nat) (a b:Code)
 |jX
 |iter (m:Option Nat) (since:Nat) (seen:List Nat) (last:Nat)
abbrev Fr:=Tr AV
abbrev Hp:=Tr br
structure G where
 f:Fr->Option AV
inductive bb where
 |fail
 |val (v:AV)
 |new (v:AV) (k:br)
 |upd (v:AV) (b:Nat) (k:br)
 |mv (v:AV) (b:Nat) (k:br)
abbrev Eff:=Fr->Hp->Nat->bb
inductive Mc where
 |fail
 |mk (o:nz) (F:Fr) (H:Hp) (n:Nat) (m:List Dm)
inductive iT where
 |fail
 |mk (v:AV) (H:Hp) (n:Nat)
 |qX (v:AV) (H:Hp) (n:Nat)
inductive QE where
 |fail
 |mk (u:UM) (H:Hp) (n:Nat)
structure Ce where
 call:FuncId->List AV->Hp->Nat->iT
 code:Nat->Code->Fr->Hp->Nat->Mc
 dcall:FuncId->List AV->UM->Hp->Nat->QE
structure K where
 f:Ce->Fr->Hp->Nat->List Dm->Mc
def fY {α:Type}(n:Nat)(k:Nat->α):α:=Nat.rec (motive:=λ _=>α) (k 0) (λ m _=>k (Nat.succ m)) n
def TU {α:Type}(i:Int)(k:Int->α):α:=Int.rec (motive:=λ _=>α) (λ m=>fY m λ m=>k (.ofNat m)) (λ m=>fY m λ m=>k (.negSucc m)) i
def aip {α:Type}(c:Bool)(a b:α):α:=Bool.rec (motive:=λ _=>α) b a c
def kK {α β:Type}(o:Option α)(d:β)(k:α->β):β:=Option.rec (motive:=λ _=>β) d k o
def dflt (z:List AV)(i:Nat):Option AV:=
 List.rec (motive:=λ _=>Option AV) none (λ a r _=>List.rec (motive:=λ _=>Option AV) (some a) (λ _ _ _=>z[i % z.length]?) r) z
def nth {α:Type}(l:List α):Nat->Option α:=
 List.rec (motive:=λ _=>Nat->Option α) (λ _=>none) (λ a _ ih i=>Nat.rec (motive:=λ _=>Option α) (some a) (λ j _=>ih j) i) l
def gz (used:Nat)(z base:List AV)(t:Ov AV)(i:Nat):Option AV:=
 aip (Nat.blt i used) (kK (t.get i) (kK (nth base i) (dflt z i) some) some) none
def tW (used:Nat)(z base:List AV)(t:Ov AV)(o:Nat)(n:Nat):List AV->Option (List AV):=
 Nat.rec (motive:=λ _=>List AV->Option (List AV)) some (λ m ih acc=>kK (gz used z base t (Nat.add o m)) none (λ v=>ih (v::acc))) n
def rpA (a:AV)(n:Nat):List AV:=Nat.rec (motive:=λ _=>List AV) [] (λ _ ih=>a::ih) n
def wR (z base:List AV):Option AV:=match base with
 |[]=>match z with
  |[a]=>some a
  |_=>none
 |_::_=>none
def hdL (e:List AV):Option AV:=List.rec (motive:=λ _=>Option AV) none (λ a _ _=>some a) e
def adl (z:List AV):Option AV:=match z with
 |[a]=>some a
 |_=>none
def yB (t:Tr AV)(fill:Option AV)(n:Nat):Nat->List AV->Option (List AV):=
 Nat.rec (motive:=λ _=>Nat->List AV->Option (List AV)) (λ _ _=>some []) (λ _ ih i e=>kK (kK (t.get i) (kK (hdL e) fill some) some) none λ v=>kK (ih (Nat.succ i) (tlO e)) none λ l=>some (v::l)) n
def GX (fill:Option AV) (base:List AV) (s:Nat) (c:Tr (List AV)) (q:Nat):List AV:=match c.get q with
 |some l=>l
 |none=>match fill with
  |some x=>rpA x s
  |none=>Ft (Nat.mul q s) base
def acm (a b:List AV):List AV:=List.rec (motive:=λ _=>List AV) b (λ x _ ih=>x::ih) a
def ER (fill:Option AV) (base:List AV) (s:Nat) (c:Tr (List AV)) (fuel:Nat):Nat->Nat->Option (List AV):=
 Nat.rec (motive:=λ _=>Nat->Nat->Option (List AV)) (λ _ _=>none) (λ _ ih o n =>
  match Nat.ble n (Nat.sub s (Nat.mod o s))with
  |true=>match yF n (Ft (Nat.mod o s) (GX fill base s c (Nat.div o s)))with
   |l=>match Nat.beq (ky l 0) n with
    |true=>some l
    |false=>none
  |false=>match yF (Nat.sub s (Nat.mod o s)) (Ft (Nat.mod o s) (GX fill base s c (Nat.div o s)))with
   |l => match Nat.beq (ky l 0) (Nat.sub s (Nat.mod o s))with
    |true=>match ih (Nat.add o (Nat.sub s (Nat.mod o s))) (Nat.sub n (Nat.sub s (Nat.mod o s)))with
     |some r=>some (acm l r)
     |none=>none
    |false=>none) fuel
def orR (r:Option (List AV))(used:Nat)(z base:List AV)(t:Ov AV)(o n:Nat):Option (List AV):=match r with
 |some l=>some l
 |none=>tW used z base t o n []
def vY (n r:Nat) (e:List AV):Option (List AV):=match yF n (Ft r e)with
 |l=>match Nat.beq (ky l 0) n with
  |true=>some l
  |false=>none
def fX (used:Nat) (z base:List AV) (t:Ov AV) (o n:Nat):Option (List AV):=
 match t with
 |.nil=>match z with
  |[]=>match Nat.beq o 0&&Nat.beq n used with
   |true=>some base
   |false=>match Nat.ble (Nat.add o n) used with
    |true=>orR (vY n o base) used [] base .nil o n
    |false=>none
  |a :: r=>match wR (a::r) base with
   |some x=>match Nat.ble (Nat.add o n) used with
    |true=>some (rpA x n)
    |false=>none
   |none=>tW used (a::r) base .nil o n []
 |.tr x l r=>match Nat.ble (Nat.add o n) used with
  |true=>orR (yB (.node x l r) (adl z) n o (Ft o base)) used z base (.tr x l r) o n
  |false=>none
 |.ch s c p => match Nat.ble (Nat.add o n) used with
  |true => match Nat.ble 1 s with
   |true=>match p with
    |.nil=>orR (match Nat.beq (Nat.mod o s) 0&&Nat.beq n s with
     |true=>match c.get (Nat.div o s)with
      |some l=>match Nat.beq (ky l 0) n with
       |true=>some l
       |false=>none
      |none=>ER (wR z base) base s c (Nat.add (Nat.div n s) 2) o n
     |false=>ER (wR z base) base s c (Nat.add (Nat.div n s) 2) o n) used z base (.ch s c .nil) o n
    |.node v l r=>orR (match Nat.ble (Nat.add (Nat.mod o s) n) s with
     |true=>match c.get (Nat.div o s)with
      |some e=>yB (.node v l r) none n o (Ft (Nat.mod o s) e)
      |none=>none
     |false=>none) used z base (.ch s c (.node v l r)) o n
   |false=>tW used z base (.ch s c p) o n []
  |false=>none
def patch:List AV->Nat->List AV->Option (List AV)
 |cs,_,[]=>some cs
 |[],_,_::_=>none
 |_::cs,0,v::vs=>(patch cs 0 vs).map (v::·)
 |c::cs,o+1,v::vs=>(patch cs o (v::vs)).map (c::·)
def jS (F:Fr):List (Nat×Nat×G)->List AV->Option (List AV)
 |[],cs=>some cs
 |(o, s,x)::r,cs=>match x.f F with
  |some v=>match Nat.beq v.len s&&Nat.blt 0 s with
   |true=>match patch cs o v.cells with
    |some cs'=>jS F r cs'
    |none=>none
   |false=>none
  |none=>none
def evs (F:Fr):List G->Option (List AV)
 |[]=>some []
 |x :: r=>match x.f F with
  |some a=>match evs F r with
   |some l=>some (a::l)
   |none=>none
  |none=>none
def aY:List AV->Bool
 |[]=>true
 |v::r=>v.one&&aY r
def rep (z:List AV):Nat->List AV
 |0=>[]
 |n+1=>z++rep z n
def eQ:List Nat->List Nat->Bool
 |[],[]=>true
 |a::x,b::y=>match Nat.beq a b with
  |true=>eQ x y
  |false=>false
 |_,_=>false
def jx:List Nat->List Nat->Bool
 |_,[]=>false
 |[],_::_=>true
 |a::x,b::y=>Nat.blt a b||(Nat.beq a b&&jx x y)
def dF {α:Type}(l:List α):Nat->Nat:=List.rec (motive:=λ _=>Nat->Nat) (λ n=>n) (λ _ _ ih n=>fY (Nat.succ n) ih) l
def bytesOf:List AV->Option (List Nat)
 |[]=>some []
 |.int .u8 n::r=>(bytesOf r).map (n.toNat % 256::·)
 |_::_=>none
def QW (l:List Nat):List AV:=l.map λ n=>.int .u8 (Int.ofNat n)
inductive LK where
 |i|s|b
def dH:LK->AV->AV->Option Bool
 |.i,.int j a,.int k b=>if j=k then some (a == b)else none
 |.b,.bool a,.bool b=>some (a == b)
 |.s,.str a,.str b=>some (eQ a b)
 |_,_,_=>none
def bF:List LK->List AV->List AV->Option Bool
 |[],[],[]=>some true
 |q::qs,a::x,b::y=>match dH q a b with
  |some true=>bF qs x y
  |some false=>some false
  |none=>none
 |_,_,_=>none
inductive EqK where
 |num|bool|ptr|slice|map|func|iface|qE
def fS (q:EqK) (x y:AV):Option Bool:=
 match q,x,y with
 |.num,.int j a,.int k b=>if j=k then some (a == b)else none
 |.num,.str a,.str b=>some (eQ a b)
 |.bool,.bool a,.bool b=>some (a == b)
 |.ptr,.ptr a o,.ptr b p=>match Nat.beq a b with
  |true=>some (Nat.beq o p)
  |false=>none
 |.ptr,.ptr _ _,.al (.pointer none)=>some false
 |.ptr,.al (.pointer none),.ptr _ _=>some false
 |.ptr,.al (.pointer none),.al (.pointer none)=>some true
 |.slice,.sl ..,.al (.slice none _ _)=>some false
 |.slice,.ds _ (_+1) _,.al (.slice none _ _)=>some false
 |.slice,.ds _ 0 0,.al (.slice none _ _)=>some false
 |.slice,.al (.slice none _ _),.sl ..=>some false
 |.slice,.al (.slice none _ _),.ds _ (_+1) _=>some false
 |.slice,.al (.slice none _ _),.ds _ 0 0=>some false
 |.slice,.al (.slice none _ _),.al (.slice none _ _)=>some true
 |.map,.map _,.al (.map none)=>some false
 |.map,.al (.map none),.map _=>some false
 |.map,.al (.map none),.al (.map none)=>some true
 |.func,.fn ..,.al .nilFunc=>some false
 |.func,.al .nilFunc,.fn ..=>some false
 |.func,.al .nilFunc,.al .nilFunc=>some true
 |.iface,.kG _ _,.al .nilIface=>some false
 |.iface,.al .nilIface,.kG _ _=>some false
 |.qE,.kG _ _,.al .nilIface=>some false
 |.qE,.al .nilIface,.kG _ _=>some false
 |.qE,.al .nilIface,.al .nilIface=>some true
 |_,_,_=>none
def nat?:AV->Option Nat
 |.int _ (.ofNat n)=>some n
 |_=>none
def bnd (d:Nat):Option AV->Option Nat
 |none=>some d
 |some v=>nat? v
def Br (len:Nat) (lo hi mx:Option AV):Option (Nat×Nat):=
 match bnd len mx with
 |some m=>match bnd len hi with
  |some h=>match bnd 0 lo with
   |some l=>match Nat.ble l h&&Nat.ble h len&&Nat.ble h m&&Nat.ble m len with
    |true=>some (l,h)
    |false=>none
   |none=>none
  |none=>none
 |none=>none
def uN (F:Fr):Option G->Option (Option AV)
 |none=>some none
 |some x=>(x.f F).map some
def big:Nat:=1073741824
def aV (H:Hp) (sz:Nat):AV->Option (List AV)
 |.sl b o len s=>bif Nat.beq s sz then (match H.get b with
  |some (.cells u z bs t)=>fX u z bs t o (len*sz)
  |_=>none)else none
 |.ds cs len s=>bif Nat.beq s sz||Nat.beq len 0 then some cs else none
 |.al (.slice none _ _)=>some []
 |.str l=>bif Nat.beq sz 1 then some (QW l)else none
 |_=>none
def sliceLen:AV->Option Nat
 |.sl _ _ len _=>some len
 |.ds _ len _=>some len
 |.al (.slice none _ _)=>some 0
 |.str l=>some (dF l 0)
 |_=>none
def Ey (k:IntKind):Int->List AV->Option AV
 |a,[]=>some (.int k a)
 |a,.int j b::r=>if k=j then Ey k (if b<a then b else a) r else none
 |_,_=>none
def PI:List AV->Option AV
 |.int k a::r=>Ey k a r
 |_=>none
def PL (k:IntKind):Int->List AV->Option AV
 |a,[]=>some (.int k a)
 |a,.int j b::r=>if k=j then PL k (if b>a then b else a) r else none
 |_,_=>none
def Hm:List AV->Option AV
 |.int k a::r=>PL k a r
 |_=>none
def findKey (q:LK) (k:AV):List (AV×AV×Nat)->Option (Option AV)
 |[]=>some none
 |e::r=>match dH q k e.1 with
  |some true=>some (some e.2.1)
  |some false=>findKey q k r
  |none=>none
def iC (q:LK) (k v:AV):List (AV×AV×Nat)->Option (Option (List (AV×AV×Nat)))
 |[]=>some none
 |e :: r=>match dH q k e.1 with
  |some true=>some (some ((k,v,e.2.2)::r))
  |some false=>match iC q k v r with
   |some (some r')=>some (some (e::r'))
   |some none=>some none
   |none=>none
  |none=>none
def ej (x:G):Eff:=λ F _ _=>match x.f F with
 |some v=>.val v
 |none=>.fail
def wV (c a b:G):Eff:=λ F _ _=>match c.f F with
 |some (.bool true)=>ej a F .nil 0
 |some (.bool false)=>ej b F .nil 0
 |_=>.fail
def ak (z:List AV)(len:Nat):Eff:=λ _ _ n=>.new (.ptr n 0) (.cells len [] z .nil)
def Fh (x:G):Eff:=λ F _ n=>match x.f F with
 |some v=>.new (.ptr n 0) (.cells v.len [] v.cells .nil)
 |none=>.fail
def aN (z:List AV)(k:Nat)(ps:List (Nat×Nat×G)):Eff:=λ F _ _=>match jS F ps z with
 |some cs=>.val (.agg cs k)
 |none=>.fail
def aK (z:List AV)(k sz:Nat)(ps:List (Nat×Nat×G)):Eff:=λ F _ n=>match jS F ps (rep z k)with
 |some cs=>.new (.sl n 0 k sz) (.cells (k*sz) [] cs .nil)
 |none=>.fail
def dP:AV->Hp->bb
 |.ptr b o,H=>match H.get b with
  |some (.cells u z bs t)=>match gz u z bs t o with
   |some v=>.val v
   |none=>.fail
  |_=>.fail
 |.dp (v::_),_=>.val v
 |_,_=>.fail
def sQ (x:G):Eff:=λ F H _=>match x.f F with
 |some v=>dP v H
 |none=>.fail
def cZ (k:Nat):AV->Hp->bb
 |.ptr b o,H=>match H.get b with
  |some (.cells u z bs t)=>match fX u z bs t o k with
   |some l=>.val (.agg l k)
   |none=>.fail
  |_=>.fail
 |.dp cs,_=>match Nat.ble k cs.length with
  |true=>.val (.agg (cs.take k) k)
  |false=>.fail
 |_,_=>.fail
def iI (k:Nat)(x:G):Eff:=λ F H _=>match x.f F with
 |some v=>cZ k v H
 |none=>.fail
def ke (u:Nat) (z bs:List AV) (t:Ov AV) (vs:List AV) (o:Nat):br:=match t with
 |.nil=>match z with
  |[]=>match Nat.ble u 64 with
   |true=>match patch bs o vs with
    |some bs'=>.cells u [] bs' .nil
    |none=>.cells u [] bs (Ov.bD vs o .nil)
   |false=>.cells u [] bs (Ov.bD vs o .nil)
  |a::r=>.cells u (a::r) bs (Ov.bD vs o .nil)
 |.tr x l r=>.cells u z bs (Ov.bD vs o (.tr x l r))
 |.ch s c p=>.cells u z bs (Ov.bD vs o (.ch s c p))
def fZ (k:Nat):AV->AV->Hp->bb
 |.ptr b o,v,H=>match H.get b with
  |some (.cells u z bs t)=>match Nat.beq v.len k&&Nat.ble (o+k) u&&aY v.cells with
   |true=>.upd (.aX []) b (ke u z bs t v.cells o)
   |false=>.fail
  |_=>.fail
 |_,_,_=>.fail
def dm (k:Nat) (x v:G):Eff:=λ F H _=>match x.f F with
 |some a=>match v.f F with
  |some v=>fZ k a v H
  |none=>.fail
 |none=>.fail
def zH:AV->bb
 |.ptr b o=>.val (.ptr b o)
 |.fn (.func f) a b=>.val (.fn (.func f) a b)
 |.dp cs=>.val (.dp cs)
 |.map b=>.val (.map b)
 |.jv b=>.val (.jv b)
 |_=>.fail
def aU (x:G):Eff:=λ F _ _=>match x.f F with
 |some v=>zH v
 |none=>.fail
def e1 (c:AV->bb)(x:G):Eff:=λ F _ _=>match x.f F with
 |some v=>c v
 |none=>.fail
def e2 (c:AV->AV->bb) (x y:G):Eff:=λ F _ _=>match x.f F with
 |some a=>match y.f F with
  |some b=>c a b
  |none=>.fail
 |none=>.fail
def kJ (k:IntKind)(i:Int):bb:=TU i λ r=>.val (.int k r)
def uz (c:IntKind->Int->Int->bb):AV->AV->bb
 |.int k a,.int j b=>if k=j then c k a b else .fail
 |_,_=>.fail
def yq:AV->AV->bb
 |.int k a,.int j b=>if k=j then kJ k (k.wrap (a+b))else .fail
 |.str a,.str b=>match Nat.ble (dF a 0+dF b 0) big with
  |true=>.val (.str (a++b))
  |false=>.fail
 |_,_=>.fail
def dw (op:BinOp)(k:IntKind)(a b:Int):bb:=
 match op with
 |.sub=>kJ k (k.wrap (a - b))
 |.mul=>kJ k (k.wrap (a*b))
 |.quo=>if b=0 then .fail else kJ k (k.wrap (a.tdiv b))
 |.rem=>if b=0 then .fail else kJ k (a.tmod b)
 |.and=>kJ k (k.wrap (BitVec.ofInt k.bits a &&& BitVec.ofInt k.bits b).toNat)
 |.or=>kJ k (k.wrap (BitVec.ofInt k.bits a ||| BitVec.ofInt k.bits b).toNat)
 |.xor=>kJ k (k.wrap (BitVec.ofInt k.bits a ^^^ BitVec.ofInt k.bits b).toNat)
 |.andNot=>kJ k (k.wrap (BitVec.ofInt k.bits a &&& ~~~ BitVec.ofInt k.bits b).toNat)
 |_=>.fail
def pU (op:BinOp):AV->AV->bb
 |.int k a,.int j b=>if k=j then (match op with
  |.lss=>.val (.bool (decide (a<b)))
  |.leq=>.val (.bool (decide (a<=b)))
  |.gtr=>.val (.bool (decide (a>b)))
  |.geq=>.val (.bool (decide (a>=b)))
  |_=>.fail)else .fail
 |.str a,.str b=>match op with
  |.lss=>.val (.bool (jx a b))
  |.leq=>.val (.bool (jx a b||eQ a b))
  |.gtr=>.val (.bool (!(jx a b||eQ a b)))
  |.geq=>.val (.bool (!jx a b))
  |_=>.fail
 |_,_=>.fail
def fH (op:BinOp):AV->AV->bb
 |.int k a,.int _ (.ofNat b)=>match op with
  |.shl=>kJ k (k.wrap (a*2 ^ (min b k.bits)))
  |.shr=>kJ k (a.fdiv (2 ^ (min b k.bits)))
  |_=>.fail
 |_,_=>.fail
def dq (op:BinOp):AV->AV->bb:=match op with
 |.add=>yq
 |.lss|.leq|.gtr|.geq=>pU op
 |.shl|.shr=>fH op
 |_=>uz (dw op)
def js (neg:Bool)(q:EqK)(a b:AV):bb:=match fS q a b with
 |some r=>.val (.bool (neg != r))
 |none=>.fail
def ly (neg:Bool) (ks:List LK):AV->AV->bb
 |.agg a n,.agg b m=>match Nat.beq n ks.length&&Nat.beq m ks.length with
  |true=>match bF ks a b with
   |some r=>.val (.bool (neg != r))
   |none=>.fail
  |false=>.fail
 |_,_=>.fail
def cUn (op:UnOp):AV->bb
 |.bool b=>match op with
  |.not=>.val (.bool (!b))
  |_=>.fail
 |.int k a=>match op with
  |.neg=>kJ k (k.wrap (0 - a))
  |.xor=>kJ k (k.wrap (BitVec.ofInt k.bits (if k.signed then -1 else k.max) ^^^ BitVec.ofInt k.bits a).toNat)
  |_=>.fail
 |_=>.fail
def cw (k:IntKind):AV->bb
 |.int _ a=>kJ k (k.wrap a)
 |_=>.fail
def Ih:AV->bb
 |.str l=>.val (.str l)
 |_=>.fail
def adz (t:TypeId)(v:AV):bb:=.val (.kG t v)
def aii (t:TypeId) (z:AV) (ok:Bool) (v:AV):bb:=match v with
 |.kG u x=>match Nat.beq u t with
  |true=>match ok with
   |true=>.val (.aX [x,.bool true])
   |false=>.val x
  |false=>match ok with
   |true=>.val (.aX [z,.bool false])
   |false=>.fail
 |.al .nilIface=>match ok with
  |true=>.val (.aX [z,.bool false])
  |false=>.fail
 |_=>.fail
def Qb (x:G):Eff:=λ F _ n=>match x.f F with
 |some (.str l)=>.new (.sl n 0 (dF l 0) 1) (.cells (dF l 0) [] (QW l) .nil)
 |_=>.fail
def Ik:AV->Hp->bb
 |.str _,_=>.fail
 |v,H=>match aV H 1 v with
  |some l=>match bytesOf l with
   |some bs=>.val (.str bs)
   |none=>.fail
  |none=>.fail
def HS (x:G):Eff:=λ F H _=>match x.f F with
 |some v=>Ik v H
 |none=>.fail
def anH:AV->Hp->bb
 |.sl b o len sz,H=>match H.get b with
  |some (.cells u z bs t)=>match Nat.blt 0 len with
   |true=>.upd (.sl b o len sz) b (.cells u z bs t)
   |false=>.fail
  |_=>.fail
 |_,_=>.fail
def ahR (x:G):Eff:=λ F H _=>match x.f F with
 |some v=>anH v H
 |none=>.fail
def iH (f:Fn) (a b:List G):Eff:=λ F _ _=>match evs F a with
 |some a=>match evs F b with
  |some b=>.val (.fn f a b)
  |none=>.fail
 |none=>.fail
def kD:Eff:=λ _ _ n=>.new (.map n) (.map [] 0)
def LQ (z:List AV) (sz fP n:Nat):AV->AV->bb
 |.int _ (.ofNat l),.int _ (.ofNat c)=>match Nat.ble l c&&Nat.ble c big&&Nat.ble (fP*c) 281474976710656 with
  |true=>.new (.sl n 0 l sz) (.cells (c*sz) z [] .nil)
  |false=>.fail
 |_,_=>.fail
def zy (z:List AV) (sz fP:Nat) (x y:G):Eff:=λ F _ n=>match x.f F with
 |some a=>match y.f F with
  |some b=>LQ z sz fP n a b
  |none=>.fail
 |none=>.fail
def mL (sz:Nat) (lo hi mx:Option AV):AV->bb
 |.sl b o len s=>match Br len lo hi mx with
  |some (l,h)=>match Nat.beq s sz with
   |true=>fY (o+l*sz) λ o'=>fY (h - l) λ len'=>.val (.sl b o' len' sz)
   |false=>.fail
  |none=>.fail
 |.ds cs len s=>match Br len lo hi mx with
  |some (l,h)=>match Nat.beq s sz with
   |true=>.val (.ds ((cs.drop (l*sz)).take ((h - l)*sz)) (h - l) sz)
   |false=>.fail
  |none=>.fail
 |.al (.slice none 0 0)=>match Br 0 lo hi mx with
  |some _=>.val (.al (.slice none 0 0))
  |none=>.fail
 |_=>.fail
def Bd (c:Option AV->Option AV->Option AV->AV->bb) (x:G) (lo hi mx:Option G):Eff:=λ F _ _=>match uN F lo with
 |some lo=>match uN F hi with
  |some hi=>match uN F mx with
   |some mx=>match x.f F with
    |some v=>c lo hi mx v
    |none=>.fail
   |none=>.fail
  |none=>.fail
 |none=>.fail
def Il (k:Nat):AV->bb
 |.sl b o len _=>match Nat.ble k len&&Nat.blt 0 k with
  |true=>.val (.ptr b o)
  |false=>.fail
 |_=>.fail
def xn (k:Nat):AV->bb
 |.ptr b o=>fY (o+k) λ o'=>.val (.ptr b o')
 |.dp cs=>.val (.dp (cs.drop k))
 |_=>.fail
def xk (o:Nat):AV->bb
 |.agg cs _=>match nth cs o with
  |some v=>.val v
  |none=>.fail
 |_=>.fail
def xj (o k:Nat):AV->bb
 |.agg cs n=>match Nat.ble (o+k) n with
  |true=>.val (.agg ((cs.drop o).take k) k)
  |false=>.fail
 |_=>.fail
def e9 (sz:Nat):AV->AV->bb
 |.sl b o len s,.int _ (.ofNat i)=>match Nat.blt i len&&Nat.beq s sz with
  |true=>fY (o+i*sz) λ o'=>.val (.ptr b o')
  |false=>.fail
 |.ds cs len s,.int _ (.ofNat i)=>match Nat.blt i len&&Nat.beq s sz with
  |true=>.val (.dp (cs.drop (i*sz)))
  |false=>.fail
 |_,_=>.fail
def f_ (k sz:Nat):AV->AV->bb
 |.ptr b o,.int _ (.ofNat i)=>match Nat.blt i k with
  |true=>fY (o+i*sz) λ o'=>.val (.ptr b o')
  |false=>.fail
 |.dp cs,.int _ (.ofNat i)=>match Nat.blt i k with
  |true=>.val (.dp (cs.drop (i*sz)))
  |false=>.fail
 |_,_=>.fail
def UN (n sz:Nat) (ag:Bool) (v:AV):AV->bb
 |.int _ (.ofNat i)=>match Nat.blt i n with
  |true=>match ag with
   |true=>fY (i*sz) λ o=>xj o sz v
   |false=>fY (i*sz) λ o=>xk o v
  |false=>.fail
 |_=>.fail
def xh:AV->AV->bb
 |.str l,.int _ (.ofNat i)=>match nth l i with
  |some c=>.val (.int .u8 (Int.ofNat c))
  |none=>.fail
 |_,_=>.fail
def mN (i:Nat):AV->bb
 |.aX vs=>match nth vs i with
  |some v=>.val v
  |none=>.fail
 |_=>.fail
def mY:AV->bb
 |.str l=>.val (.int .i64 (Int.ofNat (dF l 0)))
 |_=>.fail
def aZ:AV->bb
 |.sl _ _ len _=>.val (.int .i64 (Int.ofNat len))
 |.ds _ len _=>.val (.int .i64 (Int.ofNat len))
 |.al (.slice none _ len)=>match len with
  |0=>.val (.int .i64 0)
  |_=>.fail
 |_=>.fail
def cmpL:List Nat->List Nat->Int
 |[],[]=>0
 |[],_::_ => -1
 |_::_,[]=>1
 |a :: x,b::y=>match Nat.beq a b with
  |true=>cmpL x y
  |false=>match Nat.blt a b with
   |true => -1
   |false=>1
def FK:AV->AV->bb
 |.str a,.str b=>.val (.int .i64 (cmpL a b))
 |_,_=>.fail
def byL:AV->Hp->Option (List Nat)
 |.str l,_=>some l
 |.sl b o len _,H=>match H.get b with
  |some (.cells u z bs t)=>match fX u z bs t o len with
   |some l=>bytesOf l
   |none=>none
  |_=>none
 |.al (.slice none 0 0),_=>some []
 |_,_=>none
def Ut (x y:G):Eff:=λ F H _=>match x.f F with
 |some v=>match y.f F with
  |some u=>match byL v H with
   |some a=>match byL u H with
    |some b=>.val (.int .i64 (cmpL a b))
    |none=>.fail
   |none=>.fail
  |none=>.fail
 |none=>.fail
def FB (c:Nat):List Nat->Nat->Nat
 |[],n=>n
 |a::x,n=>match Nat.beq a c with
  |true=>FB c x (Nat.succ n)
  |false=>FB c x n
def UO:AV->AV->bb
 |.str a,.int .u8 (.ofNat c)=>match Nat.blt c 256 with
  |true=>.val (.int .i64 (Int.ofNat (FB c a 0)))
  |false=>.fail
 |_,_=>.fail
def PY (c:Nat):List Nat->Nat->Int
 |[],_=>.negSucc 0
 |a::x,n=>match Nat.beq a c with
  |true=>.ofNat n
  |false=>PY c x (Nat.succ n)
def adC (v u:AV) (H:Hp):bb:=match u with
 |.int .u8 (.ofNat c)=>match Nat.blt c 256 with
  |true=>match byL v H with
   |some a=>.val (.int .i64 (PY c a 0))
   |none=>.fail
  |false=>.fail
 |_=>.fail
def Ur (x y:G):Eff:=λ F H _=>match x.f F with
 |some v=>match y.f F with
  |some u=>adC v u H
  |none=>.fail
 |none=>.fail
def FM (sz n b o len m:Nat) (new:List AV):Option br->bb
 |some (.cells u z bs t)=>match Nat.beq o 0&&Nat.ble (len*sz) u with
  |true=>fY (len+m) λ k=>fY (k*sz) λ u'=>.mv (.sl n 0 k sz) b (.cells u' z bs (Ov.bD new (len*sz) t))
  |false=>match fX u z bs t o (len*sz)with
   |some old=>.mv (.sl n 0 (len+m) sz) b (.cells ((len+m)*sz) [] (old++new) .nil)
   |none=>.fail
 |_=>.fail
def lW (sz fP n m:Nat) (new:List AV) (H:Hp):AV->bb
 |.sl b o len q=>match Nat.beq m 0 with
  |true=>.val (.sl b o len q)
  |false=>match Nat.beq q sz&&Nat.blt 0 sz&&Nat.ble (len+m) big&&Nat.ble fP 4096&&aY new with
   |true=>FM sz n b o len m new (H.get b)
   |false=>.fail
 |.al (.slice none 0 0)=>match Nat.beq m 0 with
  |true=>.val (.al (.slice none 0 0))
  |false=>match Nat.blt 0 sz&&Nat.ble m big&&Nat.ble fP 4096&&aY new with
   |true=>.new (.sl n 0 m sz) (.cells (m*sz) [] new .nil)
   |false=>.fail
 |_=>.fail
def iM (sz fP n:Nat) (s x:AV) (H:Hp):bb:=match aV H sz x with
 |some new=>match sliceLen x with
  |some m=>lW sz fP n m new H s
  |none=>.fail
 |none=>.fail
def db (sz fP:Nat) (s x:G):Eff:=λ F H n=>match s.f F with
 |some s=>match x.f F with
  |some x=>iM sz fP n s x H
  |none=>.fail
 |none=>.fail
def wW (c:List AV->Option AV) (xs:List G):Eff:=λ F _ _=>match evs F xs with
 |some l=>match c l with
  |some v=>.val v
  |none=>.fail
 |none=>.fail
def isKey:LK->AV->Bool
 |.i,.int _ _=>true
 |.s,.str _=>true
 |_,_=>false
def eW (q:LK) (z:AV) (ok:Bool) (m k:AV) (H:Hp):bb:=match m with
 |.map b=>match H.get b with
  |some (.map es _)=>match isKey q k with
   |true=>match findKey q k es with
    |some (some v)=>.val (bif ok then .aX [v,.bool true]else v)
    |some none=>.val (bif ok then .aX [z,.bool false]else z)
    |none=>.fail
   |false=>.fail
  |_=>.fail
 |_=>.fail
def jq (q:LK) (z:AV) (ok:Bool) (x i:G):Eff:=λ F H _=>match x.f F with
 |some m=>match i.f F with
  |some k=>eW q z ok m k H
  |none=>.fail
 |none=>.fail
def qh (q:LK) (m k v:AV) (H:Hp):bb:=match m with
 |.map b=>match H.get b with
  |some (.map es c)=>match isKey q k with
   |true=>match iC q k v es with
    |some (some es')=>.upd (.aX []) b (.map es' c)
    |some none=>.upd (.aX []) b (.map (es++[(k,v,c)]) (c+1))
    |none=>.fail
   |false=>.fail
  |_=>.fail
 |_=>.fail
def kC (q:LK) (m k v:G):Eff:=λ F H _=>match m.f F with
 |some m=>match k.f F with
  |some k=>match v.f F with
   |some v=>qh q m k v H
   |none=>.fail
  |none=>.fail
 |none=>.fail
end Go.Abs
namespace Go.Abs
open List
def ahx:Nat->List (IntKind×Int):=λ _=>[]
def amK:Nat->Option (Array Value):=λ _=>none
structure Pd where
 f:AV->Fr->Fr
def opK (pd:Pd) (e:Eff) (next:K):K:=.mk <| λ ce F H n m =>
 bb.rec (motive:=λ _=>Mc) .fail
  (λ v=>next.f ce (pd.f v F) H n m)
  (λ v k=>next.f ce (pd.f v F) (H.put n (some k)) (Nat.succ n) m)
  (λ v b k=>next.f ce (pd.f v F) (H.put b (some k)) n m)
  (λ v b k=>next.f ce (pd.f v F) ((H.put b none).put n (some k)) (Nat.succ n) m) (e F H n)
def SK (pd:Pd)(next:K):K:=.mk <| λ ce F H n m=>next.f ce (pd.f (.aX []) F) H n m
def qF (g:G)(want:Bool)(yes no:K):K:=.mk <| λ ce F H n m=>match g.f F with
 |some (.bool b)=>bif b == want then yes.f ce F H n m else no.f ce F H n m
 |some _=>no.f ce F H n m
 |none=>.fail
def Fa:K:=.mk <| λ _ F H n m=>.mk .normal F H n m
def GZ (a b:K):K:=.mk <| λ ce F H n m=>match a.f ce F H n m with
 |.mk .normal F' H' n' m'=>b.f ce F' H' n' m'
 |r=>r
def zB (g:G)(a b:K):K:=.mk <| λ ce F H n m=>match g.f F with
 |some (.bool true)=>a.f ce F H n m
 |some (.bool false)=>b.f ce F H n m
 |_=>.fail
def sZ (i:Nat)(b:K):K:=.mk <| λ ce F H n m=>match b.f ce F H n m with
 |.mk (.exit j) F' H' n' m'=>bif Nat.beq i j then .mk .normal F' H' n' m' else .mk (.exit j) F' H' n' m'
 |r=>r
def S8 (b:K) (ce:Ce) (k:Nat):Fr->Hp->Nat->List Dm->Mc:=
 Nat.rec (motive:=λ _=>Fr->Hp->Nat->List Dm->Mc) (λ _ _ _ _=>.fail) (λ _ ih F H n m=>match b.f ce F H n m with
  |.mk .normal F' H' n' m'=>ih F' H' n' m'
  |r=>r) k
def EC (b:K):K:=.mk <| λ ce F H n m=>S8 b ce big F H n m
def Lx (i:Nat):K:=.mk <| λ _ F H n m=>.mk (.exit i) F H n m
def aav:K:=.mk <| λ _ F H n m=>.mk .ret F H n m
def ia:K:=.mk <| λ _ _ _ _ _=>.fail
def nK (nt:Nat):List Nat->List AV->Fr->Option Fr
 |[],[],F=>some F
 |p::ps,v::vs,F=>match Nat.blt p nt with
  |true=>nK nt ps vs (F.put p (some v))
  |false=>none
 |_,_,_=>none
def DD (ce:Ce) (q:Nat) (args:List AV) (H:Hp) (n:Nat):iT:=match H.get q with
 |some (.loop _ _ nt F0 ps a b)=>match nK nt ps args F0 with
  |some F1 => match ce.code nt a F1 H n with
   |.mk .normal F2 H2 n2 []=>match H2.get q with
    |some (.loop .ready j2 Hh G2 ps2 a2 b2)=>match ce.code nt b F2 (H2.put q (some (.loop .busy j2 Hh G2 ps2 a2 b2))) n2 with
     |.mk j _ H3 n3 _=>match H3.get q with
      |some (.loop _ _ GH G3 GF a3 b3)=>match j with
       |.normal=>.mk (.bool true) (H3.put q (some (.loop .ready .normal GH G3 GF a3 b3))) n3
       |.exit i=>.mk (.bool false) (H3.put q (some (.loop .done (.exit i) GH G3 GF a3 b3))) n3
       |.ret=>.mk (.bool false) (H3.put q (some (.loop .done .ret GH G3 GF a3 b3))) n3
       |.panic _=>.fail
      |_=>.fail
     |_=>.fail
    |_=>.fail
   |_=>.fail
  |none=>.fail
 |_=>.fail
def xg (pd:Pd) (g:G) (args:List G) (next:K):K:=.mk <| λ ce F H n m=>match g.f F with
 |some (.fn (.func f) first cap)=>match evs F args with
  |some as=>match ce.call f (first++(as++cap)) H n with
   |.mk v H' n'=>next.f ce (pd.f v F) H' n' m
   |.qX v H' n'=>.mk (.panic v) F H' n' m
   |.fail=>.fail
  |none=>.fail
 |some (.jv q)=>match evs F args with
  |some as=>match DD ce q as H n with
   |.mk v H' n'=>next.f ce (pd.f v F) H' n' m
   |_=>.fail
  |none=>.fail
 |_=>.fail
def Ag (nt:Nat) (g:G) (ps:List Nat) (a b:Code):K:=.mk <| λ ce F H n m=>match g.f F with
 |some (.fn (.func f) first cap) =>
  match ce.call f (first++(.jv n::cap)) ((H.put (Nat.succ n) (some .jX)).put n (some (.loop .ready .normal nt F ps a b))) (Nat.succ (Nat.succ n))with
  |.mk _ H' n'=>match H'.get n with
   |some (.loop .busy _ _ _ _ _ _)=>.fail
   |some (.loop _ (.panic _) _ _ _ _ _)=>.fail
   |some (.loop _ j _ _ _ _ _)=>.mk j F (H'.put n none) n' (.dT (Nat.succ n)::m)
   |_=>.fail
  |_=>.fail
 |_=>.fail
def Bg (pd:Pd) (g:G) (args:List G) (next:K):K:=.mk <| λ ce F H n m=>match g.f F with
 |some (.fn (.func f) first cap)=>match evs F args with
  |some as=>next.f ce (pd.f (.aX []) F) H n (.fn f (first++(as++cap))::m)
  |none=>.fail
 |_=>.fail
def Ao (g:G):K:=.mk <| λ _ F H n m=>match g.f F with
 |some (.kG t v)=>.mk (.panic (.kG t v)) F H n m
 |_=>.fail
def s5:Value->Option AV
 |.int k n=>some (.int k n)
 |.bool b=>some (.bool b)
 |.string s=>some (.str (s.data.toList.map UInt8.toNat))
 |v=>if atom v then some (.al v)else none
def kV:List Value->Option (List AV)
 |[]=>some []
 |v :: r=>match s5 v with
  |some a=>match kV r with
   |some l=>some (a::l)
   |none=>none
  |none=>none
def Iq:Value->Option AV
 |.agg cs=>(kV cs.toList).map λ l=>.agg l (dF l 0)
 |.tuple ⟨[]⟩=>some (.aX [])
 |.iface t v=>(s5 v).map (.kG t)
 |v=>s5 v
def aT (v:AV):G:=⟨λ _=>some v⟩
def ar (t:Nat):G:=⟨(Tr.abT (Nat.succ t) t).f⟩
def AU:List (IntKind×Int)->List AV
 |[]=>[]
 |(k,n)::r=>.int k n::AU r
def gAv (g:Nat):Option (List AV):=match ahx g with
 |[]=>none
 |a::r=>some (AU (a::r))
def bQ:Operand->Option G
 |.tmp t=>some (ar t)
 |.const v=>(Iq v).map aT
 |.func f=>some (aT (.fn (.func f) [] []))
 |.global g=>match gAv g with
  |some l=>some (aT (.dp l))
  |none=>none
def iS:List Operand->Option (List G)
 |[]=>some []
 |x :: r=>match bQ x with
  |some a=>match iS r with
   |some l=>some (a::l)
   |none=>none
  |none=>none
def nN:Option Operand->Option (Option G)
 |none=>some none
 |some x=>(bQ x).map some
def bS (P:Program)(t:TypeId):Option Nat:=(P.info? t).map (·.size)
def sY (P:Program)(t:TypeId):Option Nat:=(P.info? t).map (·.bytes)
def mW (P:Program) (t:TypeId):Option (List AV):=match P.info? t with
 |some i=>match i.zero with
  |some z=>kV z.cells.toList
  |none=>none
 |none=>none
def fJ (P:Program)(t:TypeId):Option Bool:=
 match P.underlying t with
 |some (.struct _)|some (.array _ _)=>some true
 |some _=>some false
 |none=>none
def rC (P:Program) (r:TypeId->Option (List LK)):List Field->Nat->Option (List LK)
 |[],_=>some []
 | f :: fs, s => if f.name = "_" then none else if f.offset = s then (match r f.type with
  |some k=>if bS P f.type=some k.length then (match rC P r fs (s+k.length)with
   |some l=>some (k++l)
   |none=>none)else none
  |none=>none)else none
def nC (n:Nat)(k:List LK):List LK:=match n with
 |0=>[]
 |n+1=>k++nC n k
def leaves (P:Program):Nat->TypeId->Option (List LK)
 |0,_=>none
 |d + 1,t=>match P.underlying t with
  |some .bool=>some [.b]
  |some (.int _)=>some [.i]
  |some .string=>some [.s]
  |some (.struct fs)=>if P.stoodInHeld t then none else rC P (leaves P d) fs.toList 0
  |some (.array n e)=>match leaves P d e with
   |some k=>if bS P e=some k.length then some (nC n k)else none
   |none=>none
  |_=>none
def rD:Operand->Bool
 |.const _=>true
 |_=>false
def wU (P:Program) (al:Bool) (t:TypeId):Option EqK:=match P.underlying t with
 |some (.int _)=>some .num
 |some .string=>some .num
 |some .bool=>some .bool
 |some (.pointer e)=>match bS P e with
  |some (_+1)=>some .ptr
  |_=>none
 |some (.slice _)=>some .slice
 |some (.map _ _)=>some .map
 |some (.func _ _ _)=>some .func
 |some (.interface _)=>some (if al then .qE else .iface)
 |_=>none
def pE (P:Program) (s:TypeId) (f:Nat):Option (Nat×TypeId):=match P.underlying s with
 |some (.struct fs)=>match fs[f]? with
  |some fd=>match bS P fd.type with
   |some (_+1)=>some (fd.offset,fd.type)
   |_=>none
  |none=>none
 |_=>none
def ua (P:Program)(t:TypeId):Option TypeId:=match P.underlying t with
 |some (.slice e)=>some e
 |_=>none
def fN (place:Nat->Option (Nat×Nat)):List (Nat×Operand)->Option (List (Nat×Nat×G))
 |[]=>some []
 |(i, x)::r=>match place i with
  |some (o,s)=>match bQ x with
   |some a=>match fN place r with
    |some l=>some ((o,s,a)::l)
    |none=>none
   |none=>none
  |none=>none
def isEq:BinOp->Bool
 |.eql=>true
 |.neq=>true
 |_=>false
def kR:BinOp->Bool
 |.neq=>true
 |_=>false
def Bj (P : Program) (op:BinOp) (t:TypeId) (x y:Operand):Option Eff:=
 match bQ x with
 |some a=>match bQ y with
  |some b=>match isEq op with
   |true=>match P.underlying t with
    |some (.struct _)=>match leaves P 20 t with
     |some k=>if P.eqGuardType P.depth t then none else some (e2 (ly (kR op) k) a b)
     |none=>none
    |some (.array _ _)=>match leaves P 20 t with
     |some k=>if P.eqGuardType P.depth t then none else some (e2 (ly (kR op) k) a b)
     |none=>none
    |_=>match wU P (rD x||rD y) t with
     |some q=>some (e2 (js (kR op) q) a b)
     |none=>none
   |false=>some (e2 (dq op) a b)
  |none=>none
 |none=>none
def xb (P:Program) (s d:TypeId) (x:Operand):Option Eff:=do
 let a <-bQ x
 match P.underlying s,P.underlying d with
 |some (.int _),some (.int k)=>some (e1 (cw k) a)
 |some .string,some .string=>some (e1 Ih a)
 |some .string,some (.slice e)=>match P.underlying e with
  |some (.int .u8)=>some (Qb a)
  |_=>none
 |some (.slice e),some .string=>match P.underlying e with
  |some (.int .u8)=>some (HS a)
  |_=>none
 |some (.slice _),some (.slice e)=>match P.underlying e with
  |some (.int .u8)=>if s=d then some (ahR a)else none
  |_=>none
 |_,_=>none
def PT (P:Program)(k:TypeId):Option LK:=match P.underlying k with
 |some (.int _)=>some .i
 |some .string=>some .s
 |_=>none
def oo (P:Program) (c:Call):Builtin->Option Eff
 |.len=>do
  let t <-c.argTypes[0]?
  let x <-c.args[0]?
  match P.underlying t with
  |some (.array n _)=>some λ _ _ _=>.val (.int .i64 (Int.ofNat n))
  |some (.pointer arr)=>match P.underlying arr with
   |some (.array n _)=>some λ _ _ _=>.val (.int .i64 (Int.ofNat n))
   |_=>none
  |some .string=>some (e1 mY (<-bQ x))
  |some (.slice _)=>some (e1 aZ (<-bQ x))
  |_=>none
 |.append=>do
  let t <-c.argTypes[0]?
  let u <-c.argTypes[1]?
  let s <-c.args[0]?
  let x <-c.args[1]?
  let e <-ua P t
  match P.underlying u with
  |some (.int _)|none=>none
  |_ => match mW P e with
   |some z=>match bS P e with
    |some sz=>if z.length=sz then do some (db sz (<-sY P e) (<-bQ s) (<-bQ x))else none
    |none=>none
   |none=>none
 |.min=>do some (wW PI (<-iS c.args.toList))
 |.max=>do some (wW Hm (<-iS c.args.toList))
 |_=>none
def Bi (P:Program) (f:FuncId) (args:List Operand):Option Eff:=match P.funcs[f]? with
 |some fn=>match fn.body with
  | none => if fn.name = "internal/bytealg.abigen_runtime_cmpstring" ∧ fn.origin = "" then (match args with
   |[x,y]=>do some (e2 FK (<-bQ x) (<-bQ y))
   | _ => none) else if fn.name = "internal/bytealg.Compare" ∧ fn.origin = "" then (match args with
   |[x,y]=>do some (Ut (<-bQ x) (<-bQ y))
   | _ => none) else if fn.name = "internal/bytealg.CountString" ∧ fn.origin = "" then (match args with
   |[x,y]=>do some (e2 UO (<-bQ x) (<-bQ y))
   | _ => none) else if (fn.name = "internal/bytealg.IndexByteString" ∨ fn.name = "internal/bytealg.IndexByte") ∧ fn.origin = "" then (match args with
   |[x,y]=>do some (Ur (<-bQ x) (<-bQ y))
   |_=>none)else none
  |some _=>none
 |none=>none
def dJ (P:Program) (o:Oper):Option Eff:=
 match o.op with
 |.move x|.assign x=>(bQ x).map ej
 |.pick c a b=>do some (wV (<-bQ c) (<-bQ a) (<-bQ b))
 |.alloc e=>(mW P e).map λ z=>ak z (dF z 0)
 |.box _ x=>(bQ x).map Fh
 |.build t ps=>do
  let z <-mW P t
  match P.underlying t with
  |some (.struct fs) =>
   match fs.toList.mapM (λ f=>(P.info? f.type).map λ i=>(f.offset,i.size))with
   |some places=>(fN (λ i=>places[i]?) ps.toList).map (aN z (dF z 0))
   |none=>none
  |some (.array _ e) =>
   match P.info? e with
   |some ie=>(fN (λ i=>some (i*ie.size,ie.size)) ps.toList).map (aN z (dF z 0))
   |none=>none
  |_=>none
 |.buildSlice t n ps=>do
  let e <-ua P t
  let k <-bS P e
  let z <-mW P e
  let l <-fN (λ i=>some (i*k,k)) ps.toList
  if z.length=k&&n*k<=16777216 then some (aK z n k l)else none
 |.load t a=>do
  let x <-bQ a
  if <-fJ P t then some (iI (<-bS P t) x)else some (sQ x)
 |.store t a v=>do some (dm (<-bS P t) (<-bQ a) (<-bQ v))
 |.nilCheck x=>(bQ x).map aU
 |.binOp op t x y _=>Bj P op t x y
 |.unOp op _ x=>(bQ x).map (e1 (cUn op))
 |.convert s d x=>xb P s d x
 |.sliceToArrayPointer arr x=>match P.underlying arr with
  |some (.array n _)=>(bQ x).map (e1 (Il n))
  |_=>none
 |.makeInterface t x=>match P.underlying t with
  |some (.interface _)|none=>none
  |_=>(bQ x).map (e1 (adz t))
 |.typeAssert x _ t ok=>match P.underlying t with
  |some (.interface _)|none=>none
  |_=>do
   let z <-(P.info? t).bind (·.zero)
   some (e1 (aii t (<-Iq z) ok) (<-bQ x))
 |.makeFunc f a b=>do some (iH f (<-iS a.toList) (<-iS b.toList))
 |.makeMap _ none=>some kD
 |.makeMap t (some (.const (.int _ _)))=>match P.underlying t with
  |some (.map _ _)=>some kD
  |_=>none
 |.lookup t x i ok=>match P.underlying t with
  |some (.map k e)=>do
   let z <-(P.info? e).bind (·.zero)
   some (jq (<-PT P k) (<-Iq z) ok (<-bQ x) (<-bQ i))
  |_=>none
 |.mapUpdate t m k v|.insert t m k v=>match P.underlying t with
  |some (.map q _)=>do some (kC (<-PT P q) (<-bQ m) (<-bQ k) (<-bQ v))
  |_=>none
 |.makeSlice t l c=>do
  let e <-ua P t
  let z <-mW P e
  let k <-bS P e
  if z.length=k then some (zy z k (<-sY P e) (<-bQ l) (<-bQ c))else none
 |.slice t x lo hi mx =>
  match P.underlying t with
  |some (.slice e)=>if mx.isNone||hi.isSome then do some (Bd (mL (<-bS P e)) (<-bQ x) (<-nN lo) (<-nN hi) (<-nN mx))else none
  |_=>none
 |.fieldAddr s x f=>do
  let (off,_) <-pE P s f
  some (e1 (xn off) (<-bQ x))
 |.field s x f=>do
  let (off,ft) <-pE P s f
  let a <-bQ x
  if <-fJ P ft then some (e1 (xj off (<-bS P ft)) a)else some (e1 (xk off) a)
 |.indexAddr t x i =>
  match P.underlying t with
  |some (.slice e)=>do some (e2 (e9 (<-bS P e)) (<-bQ x) (<-bQ i))
  |some (.array n e)=>do some (e2 (f_ n (<-bS P e)) (<-bQ x) (<-bQ i))
  |_=>none
 |.index t x i =>
  match P.underlying t with
  |some .string=>do some (e2 xh (<-bQ x) (<-bQ i))
  |some (.array n e)=>do some (e2 (UN n (<-bS P e) (<-fJ P e)) (<-bQ x) (<-bQ i))
  |_=>none
 |.extract t i=>do some (e1 (mN i) (<-bQ t))
 |.call c=>match c.callee with
  |.builtin b=>oo P c b
  |.value (.func f)=>Bi P f c.args.toList
  |_=>none
 |_=>none
def SV (P : Program) (t:TypeId) (name:String):Option FuncId:=match P.info? t with
 |some ti=>match ti.methods.find? (·.name == name)with
  |some m=>match m.path.toList with
   |[]=>match m.func with
    |some (f,pr)=>match P.underlying t with
     |some (.pointer _)=>if pr then some f else none
     |some _=>if pr then none else some f
     |none=>none
    |none=>none
   |_=>none
  |none=>none
 |none=>none
def Hw (P:Program) (name:String) (g:G):G:=⟨λ F=>match g.f F with
 |some (.kG t v)=>match SV P t name with
  |some f=>some (.fn (.func f) [v] [])
  |none=>none
 |_=>none⟩
def eV (nt:Nat):Option Tmp->Option Pd
 |none=>some ⟨λ _ F=>F⟩
 |some d=>if d<nt then some ⟨λ v F=>(Tr.vW (Nat.succ d) d).f (some v) F⟩else none
def sU (P:Program) (pd:Pd) (o:Oper) (next:K):K:=
 match o.op with
 |.call {callee:=.value f,args,argTypes:=_}=>match dJ P o with
  |some e=>opK pd e next
  |none=>match bQ f,iS args.toList with
   |some g,some as=>xg pd g as next
   |_,_=>ia
 |.call {callee:=.invoke x name,args,argTypes:=_}=>match bQ x,iS args.toList with
  |some g,some as=>xg pd (Hw P name g) as next
  |_,_=>ia
 |.panic x=>match bQ x with
  |some g=>Ao g
  |none=>ia
 |.defer {callee:=.value f,args,argTypes:=_}=>match bQ f,iS args.toList with
  |some g,some as=>Bg pd g as next
  |_,_=>ia
 |_=>match dJ P o with
  |some e=>opK pd e next
  |none=>ia
def rK (P:Program) (nt:Nat) (ops:Array Oper) (o:Oper) (next:K):K:=
 match eV nt o.dst with
 |none=>ia
 |some pd=>match o.guard with
  |none=>sU P pd o next
  |some (j,b)=>match (ops[j]?).bind (·.dst)with
   |some d=>qF (ar d) b (sU P pd o next) (SK pd next)
   |none=>ia
def rJ (P:Program)(nt:Nat)(ops:Array Oper):List Oper->K
 |[]=>Fa
 |o::r=>rK P nt ops o (rJ P nt ops r)
structure KR where
 f:Ce->Fr->Hp->List Hp->Nat->List Dm->Mc
structure RS where
 f:Fr->Fr
inductive eN where
 |op (i e:Nat)
 |mod (i:Nat)
 |QI (i:Nat)
 |jd (i:Nat)
def akU:RS:=⟨λ _=>.nil⟩
def Rr (t:Nat)(r:RS):RS:=⟨λ F=>(Tr.vW (Nat.succ t) t).f ((ar t).f F) (r.f F)⟩
def cB:List Nat->RS
 |[]=>akU
 |t::l=>Rr t (cB l)
def iL:List Nat->Fr->Fr
 |[],F=>F
 |t::l,F=>iL l ((Tr.vW (Nat.succ t) t).f none F)
def Uz:Value->Value->Bool
 |.pointer none,.pointer none=>true
 |.slice none 0 0,.slice none 0 0=>true
 |.nilIface,.nilIface=>true
 |.nilFunc,.nilFunc=>true
 |.map none,.map none=>true
 |_,_=>false
def FX:AV->AV->Bool
 |.int j a,.int k b=>decide (j=k)&&decide (a=b)
 |.bool a,.bool b=>a == b
 |.str a,.str b=>eQ a b
 |.ptr a o,.ptr b p=>Nat.beq a b&&Nat.beq o p
 |.sl a o l s,.sl b p m r=>Nat.beq a b&&Nat.beq o p&&Nat.beq l m&&Nat.beq s r
 |.map a,.map b=>Nat.beq a b
 |.al x,.al y=>Uz x y
 |.fn (.func f) [] [],.fn (.func g) [] []=>Nat.beq f g
 |_,_=>false
def LW:AV->AV->Bool
 |.kG t v,.kG u w=>Nat.beq t u&&FX v w
 |v,w=>FX v w
def zK:List AV->List AV->Bool
 |[],[]=>true
 |a::x,b::y=>match LW a b with
  |true=>zK x y
  |false=>false
 |_,_=>false
def U5:AV->AV->Bool
 |.agg a n,.agg b m=>Nat.beq n m&&zK a b
 |v,w=>LW v w
def wT (f:AV->AV->Bool):List AV->List AV->Bool
 |[],[]=>true
 |a::x,b::y=>match f a b with
  |true=>wT f x y
  |false=>false
 |_,_=>false
def Ui:Nat->AV->AV->Bool
 |0,_,_=>false
 |k+1,a,b=>match a,b with
  |.agg x n,.agg y m=>Nat.beq n m&&wT (Ui k) x y
  |.aX x,.aX y=>wT (Ui k) x y
  |.kG t v,.kG u w=>Nat.beq t u&&Ui k v w
  |.fn (.func f) a b,.fn (.func g) c d=>Nat.beq f g&&wT (Ui k) a c&&wT (Ui k) b d
  |.jv a,.jv b=>Nat.beq a b
  |.ds x n s,.ds y m t=>Nat.beq n m&&Nat.beq s t&&wT (Ui k) x y
  |.dp x,.dp y=>wT (Ui k) x y
  |a,b=>FX a b
open Classical in
def Ir (v w:AV):Bool:=match U5 v w with
 |true=>true
 |false=>match Ui 8 v w with
  |true=>true
  |false=>decide (v=w)
def fg (e : Eff) (F:Fr) (n:Nat):Nat->List Hp->Option AV
 |0,_=>none
 |_+1,[]=>none
 |k + 1,A::As=>match e F A n with
  |.val v=>match k with
   |0=>some v
   |_ => match fg e F n k As with
    |some u=>match Ir v u with
     |true=>some u
     |false=>none
    |none=>none
  |_=>none
def iY (n:Nat):List Hp->Bool
 |[]=>true
 |A::As=>match A.get n with
  |none=>iY n As
  |some _=>false
def opR (rs:RS) (pd:Pd) (e:Eff) (cnt:Nat) (next:KR):KR:=.mk <| λ ce F H Hs n m=>match e (rs.f F) .nil n with
 |.val v=>next.f ce (pd.f v F) H Hs n m
 |.new v k=>match iY n Hs with
  |true=>next.f ce (pd.f v F) (H.put n (some k)) Hs (Nat.succ n) m
  |false=>.fail
 |.fail=>match fg e (rs.f F) n cnt Hs with
  |some v=>next.f ce (pd.f v F) H Hs n m
  |none=>.fail
 |_=>.fail
def PG (pd:Pd)(next:KR):KR:=.mk <| λ ce F H Hs n m=>next.f ce (pd.f (.aX []) F) H Hs n m
def PH (pd:Pd)(next:KR):KR:=.mk <| λ ce F H Hs n m=>next.f ce (pd.f (.aX []) F) H (H::Hs) n m
def Eu (rs:RS)(pd:Pd)(e:Eff)(next:KR):KR:=.mk <| λ ce F H Hs n m=>match e (rs.f F) H n with
 |.val v=>next.f ce (pd.f v F) H (H::Hs) n m
 |.new v k=>next.f ce (pd.f v F) (H.put n (some k)) (H.put n (some k)::Hs) (Nat.succ n) m
 |.upd v b k=>next.f ce (pd.f v F) (H.put b (some k)) (H.put b (some k)::Hs) n m
 |.mv v b k=>next.f ce (pd.f v F) ((H.put b none).put n (some k)) ((H.put b none).put n (some k)::Hs) (Nat.succ n) m
 |.fail=>.fail
def jE (rs:RS) (pd:Pd) (g:G) (args:List G) (next:KR):KR:=.mk <| λ ce F H Hs n m=>match g.f (rs.f F)with
 |some (.fn (.func f) first cap)=>match evs (rs.f F) args with
  |some as=>match ce.call f (first++(as++cap)) H n with
   |.mk v H' n'=>next.f ce (pd.f v F) H' (H'::Hs) n' m
   |_=>.fail
  |none=>.fail
 |some (.jv q)=>match evs (rs.f F) args with
  |some as=>match DD ce q as H n with
   |.mk v H' n'=>next.f ce (pd.f v F) H' (H'::Hs) n' m
   |_=>.fail
  |none=>.fail
 |_=>.fail
def wH (rs:RS)(g:G)(want:Bool)(yes no:KR):KR:=.mk <| λ ce F H Hs n m=>match g.f (rs.f F)with
 |some (.bool b)=>bif b == want then yes.f ce F H Hs n m else no.f ce F H Hs n m
 |some _=>no.f ce F H Hs n m
 |none=>.fail
def TX (rs:RS) (pd:Pd) (e:Eff) (next:KR):KR:=.mk <| λ ce F H Hs n m=>match Hs with
 |[]=>.fail
 |B :: l=>match e (rs.f F) B n with
  |.upd v b k=>match B.get b with
   |some _=>next.f ce (pd.f v F) (H.put b (some k)) (B.put b none::l) n m
   |none=>.fail
  |_=>.fail
def ahL:KR:=.mk <| λ _ F H _ n m=>.mk .normal F H n m
def iU:KR:=.mk <| λ _ _ _ _ _ _=>.fail
def vv:List Operand->List Nat
 |[]=>[]
 |.tmp t::l=>t::vv l
 |_::l=>vv l
def slotsOf (ops:Array Oper) (o:Oper):List Nat:=match o.guard with
 |none=>vv o.op.operands.toList
 |some (j,_)=>match (ops[j]?).bind (·.dst)with
  |some d=>d::vv o.op.operands.toList
  |none=>vv o.op.operands.toList
def inR (P:Program)(rs:RS)(pd:Pd)(o:Oper)(cnt:Nat)(next:KR):KR:=match dJ P o with
 |some e=>opR rs pd e cnt next
 |none=>iU
def inM (P:Program) (rs:RS) (pd:Pd) (o:Oper) (next:KR):KR:=match o.op with
 |.call {callee:=.value f,args,argTypes:=_}=>match dJ P o with
  |some e=>Eu rs pd e next
  |none=>match bQ f,iS args.toList with
   |some g,some as=>jE rs pd g as next
   |_,_=>iU
 |.call {callee:=.invoke x name,args,argTypes:=_}=>match bQ x,iS args.toList with
  |some g,some as=>jE rs pd (Hw P name g) as next
  |_,_=>iU
 |_=>match dJ P o with
  |some e=>Eu rs pd e next
  |none=>iU
def inF (P:Program) (rs:RS) (pd:Pd) (o:Oper) (next:KR):KR:=match o.op with
 |.store _ _ _=>match dJ P o with
  |some e=>TX rs pd e next
  |none=>iU
 |_=>iU
def guarded (ops:Array Oper) (rs:RS) (o:Oper) (yes no:KR):KR:=match o.guard with
 |none=>yes
 |some (j,b)=>match (ops[j]?).bind (·.dst)with
  |some d=>wH rs (ar d) b yes no
  |none=>iU
def fV (P:Program) (nt:Nat) (ops:Array Oper):List eN->Nat->KR
 |[],_=>ahL
 |.op i e::l,j=>match ops[i]? with
  |some o=>match eV nt o.dst with
   |some pd=>guarded ops (cB (slotsOf ops o)) o (inR P (cB (slotsOf ops o)) pd o (Nat.succ (Nat.sub j e)) (fV P nt ops l j)) (PG pd (fV P nt ops l j))
   |none=>iU
  |none=>iU
 |.mod i::l,j=>match ops[i]? with
  |some o=>match eV nt o.dst with
   |some pd=>guarded ops (cB (slotsOf ops o)) o (inM P (cB (slotsOf ops o)) pd o (fV P nt ops l (Nat.succ j))) (PH pd (fV P nt ops l (Nat.succ j)))
   |none=>iU
  |none=>iU
 |.QI i::l,j=>match ops[i]? with
  |some o=>match eV nt o.dst with
   |some pd=>guarded ops (cB (slotsOf ops o)) o (inR P (cB (slotsOf ops o)) pd o 0 (fV P nt ops l j)) (PG pd (fV P nt ops l j))
   |none=>iU
  |none=>iU
 |.jd i::l,j=>match ops[i]? with
  |some o=>match eV nt o.dst with
   |some pd=>match o.guard with
    |none=>inF P (cB (slotsOf ops o)) pd o (fV P nt ops l j)
    |some _=>iU
   |none=>iU
  |none=>iU
def tb (m i:Nat):Bool:=Nat.beq (Nat.land (Nat.shiftRight m i) 1) 1
def F8 (T:Tr Nat):List Edge->Nat->Nat
 |[],s=>s
 |e::l,s=>match Region.binds .any e with
  |true=>F8 T l (Nat.lor (Nat.lor s (Nat.shiftLeft 1 e.on)) (kK (T.get e.on) 0 id))
  |false=>F8 T l s
def lZ:List Oper->Nat->Tr Nat->Tr Nat
 |[],_,T=>T
 |o::l,i,T=>lZ l (Nat.succ i) (fY (F8 T o.after.toList 0) λ m=>T.put i (some m))
def abE:Op->Bool
 |.call {callee:=.value _,args:=_,argTypes:=_}=>true
 |.call {callee:=.invoke _ _,args:=_,argTypes:=_}=>true
 |.call {callee:=.builtin .append,args:=_,argTypes:=_}=>true
 |.call {callee:=.builtin .copy,args:=_,argTypes:=_}=>true
 |.call {callee:=.builtin .delete,args:=_,argTypes:=_}=>true
 |.store _ _ _=>true
 |.mapUpdate _ _ _ _=>true
 |.insert _ _ _ _=>true
 |.call {callee:=.builtin .clear,args:=_,argTypes:=_}=>true
 |.next _ _=>true
 |_=>false
def dD (T:Tr Nat)(i:Nat):Nat:=kK (T.get i) 0 id
def ang (T:Tr Nat)(i:Nat):List Nat->Nat
 |[]=>0
 |q::l=>bif tb (dD T i) q then Nat.succ (ang T i l)else 0
def group (T:Tr Nat)(bK:List Nat)(s t mm:Nat):List Oper->Nat->List eN->List eN
 |[],_,r=>r
 |_::l,i,r=>bif tb s i&&!tb t i&&!tb mm i then .op i (ang T i bK)::group T bK s t mm l (Nat.succ i) r else group T bK s t mm l (Nat.succ i) r
def HD (s t mm:Nat):List Oper->Nat->List eN->List eN
 |[],_,r=>r
 |_::l,i,r=>bif tb s i&&!tb t i&&!tb mm i then .QI i::HD s t mm l (Nat.succ i) r else HD s t mm l (Nat.succ i) r
def adk:List Nat->List eN
 |[]=>[]
 |q::l=>.jd q::adk l
def Sl (T:Tr Nat) (bK fl:List Nat) (mm all:Nat) (ops:List Oper):List Nat->Nat->List eN
 |[],seen=>match fl with
  |[]=>group T bK all seen mm ops 0 []
  |q::l=>HD all seen mm ops 0 (adk (q::l))
 |q::l,seen=>group T bK (dD T q) seen mm ops 0 (.mod q::Sl T bK fl mm all ops l (Nat.lor (Nat.lor seen (dD T q)) (Nat.shiftLeft 1 q)))
def U_ (T:Tr Nat)(q:Nat):List Nat->Bool
 |[]=>true
 |x::l=>bif tb (dD T x) q then U_ T q l else false
def Re (T:Tr Nat):List Nat->List Nat×List Nat
 |[]=>([],[])
 |q :: l=>match U_ T q l with
  |true=>match Re T l with
   |(a,b)=>(q::a,b)
  |false=>([],q::l)
def Au:List Oper->Nat->List Nat
 |[],_=>[]
 |o::l,i=>bif abE o.op then i::Au l (Nat.succ i)else Au l (Nat.succ i)
def SZ:List Nat->Nat
 |[]=>0
 |q::l=>Nat.lor (Nat.shiftLeft 1 q) (SZ l)
def Pg (T:Tr Nat)(ops:List Oper):List eN:=
 match Re T (Au ops 0)with
 |(ch,fl)=>Sl T ch fl (SZ (Au ops 0)) (Nat.sub (Nat.shiftLeft 1 (dF ops 0)) 1) ops ch 0
def wY:List Oper->Nat->Tr Nat->Option (Tr Nat)
 |[],_,T=>some T
 |o :: l,i,T=>match o.dst with
  |none=>wY l (Nat.succ i) T
  |some d=>match T.get d with
   |none=>wY l (Nat.succ i) (T.put d (some i))
   |some _=>none
def FT:List Edge->Nat->Bool
 |[],_=>true
 |e::l,i=>match Region.binds .any e with
  |true=>bif Nat.blt e.on i then FT l i else false
  |false=>FT l i
def LV:List Oper->Nat->Bool
 |[],_=>true
 |o::l,i=>FT o.after.toList i&&LV l (Nat.succ i)
def yu:List Oper->Tr Nat->Tr Nat
 |[],T=>T
 |o :: l,T=>match o.op with
  |.assign _=>match o.dst with
   |some d=>yu l (T.put d (some 0))
   |none=>yu l T
  |_=>yu l T
def iz (T D E:Tr Nat) (i seen:Nat):List Nat->Bool
 |[]=>true
 |t :: l=>match D.get t with
  |none=>iz T D E i seen l
  |some p=>match E.get t with
   |none=>bif tb (dD T i) p then iz T D E i seen l else false
   |some _=>bif tb (dD T p) i&&!tb seen p then iz T D E i seen l else false
def EP (m:Nat):List Nat->Bool
 |[]=>true
 |p::l=>bif tb m p then EP m l else false
def qL (T D E:Tr Nat) (ops:Array Oper) (bK:List Nat):List eN->(seen:Nat)->Bool
 |[],_=>true
 |.jd i::l,seen=>match ops[i]? with
  |some o=>iz T D E i seen (slotsOf ops o)&&(match bK with
   |[]=>true
   |q::_=>tb (dD T i) q)&&qL T D E ops bK l (Nat.lor seen (Nat.shiftLeft 1 i))
  |none=>false
 |_::_,_=>false
def my (T D E:Tr Nat) (ops:Array Oper):List eN->(bK grp bad:List Nat)->(seen:Nat)->Bool
 |[],_,_,_,_=>true
 |.jd i::l,bK,_,bad,seen=>match bad with
  |[]=>qL T D E ops bK (.jd i::l) seen
  |_::_=>false
 |.QI i::l,bK,grp,bad,seen=>match ops[i]? with
  |some o=>iz T D E i seen (slotsOf ops o)&&my T D E ops l bK (i::grp) bad (Nat.lor seen (Nat.shiftLeft 1 i))
  |none=>false
 |.op i e::l,bK,grp,bad,seen=>match ops[i]? with
  |some o=>iz T D E i seen (slotsOf ops o)&&(match e with
   |0=>true
   |_=>Nat.ble e (dF bK 0)&&kK (nth bK (Nat.sub (dF bK 0) e)) false (λ q=>tb (dD T i) q))&&my T D E ops l bK (i::grp) (i::bad) (Nat.lor seen (Nat.shiftLeft 1 i))
  |none=>false
 |.mod i::l,bK,grp,_,seen=>match ops[i]? with
  |some o=>iz T D E i seen (slotsOf ops o)&&EP (dD T i) grp&&(match bK with
   |[]=>true
   |q::_=>tb (dD T i) q)&&my T D E ops l (i::bK) [] [] (Nat.lor seen (Nat.shiftLeft 1 i))
  |none=>false
def idxOf:eN->Nat
 |.op i _=>i
 |.mod i=>i
 |.QI i=>i
 |.jd i=>i
def wj:List eN->Nat->Option Nat
 |[],s=>some s
 |x::l,s=>bif tb s (idxOf x)then none else wj l (Nat.lor s (Nat.shiftLeft 1 (idxOf x)))
def EJ:Op->Bool
 |.assign _=>true
 |_=>false
def iJ:List Oper->List Nat
 |[]=>[]
 |o :: l=>match EJ o.op with
  |true=>iJ l
  |false=>match o.dst with
   |some d=>d::iJ l
   |none=>iJ l
def uL (T:Tr Nat) (ops:Array Oper) (pl:List eN):Bool:=
 LV ops.toList 0&&(match wY ops.toList 0 .nil with
  |some D=>my T D (yu ops.toList .nil) ops pl [] [] [] 0
  |none=>false)&&(match wj pl 0 with
  |some s=>Nat.beq s (Nat.sub (Nat.shiftLeft 1 (dF ops.toList 0)) 1)
  |none=>false)
def aay (P:Program)(nt:Nat)(ops:Array Oper)(pl:List eN)(ok:Bool):K:=match ok with
 |true=>.mk <| λ ce F H n m=>(fV P nt ops pl 0).f ce (iL (iJ ops.toList) F) H [H] n m
 |false=>ia
def LG (P:Program)(nt:Nat)(ops:Array Oper)(T:Tr Nat):K:=aay P nt ops (Pg T ops.toList) (uL T ops (Pg T ops.toList))
def y9:Code->Option (Operand×Tmp×Array Oper×List Oper)
 |.region _ ops false=>match ops.toList with
  |o::os=>match o.op,o.guard,o.dst with
   |.next x false,none,some d=>some (x,d,ops,os)
   |_,_,_=>none
  |[]=>none
 |_=>none
def abq (_:Program)(_:Nat)(_:Operand)(_:Tmp)(_:Array Oper)(_:List Oper)(_:K):K:=ia
def AE:Op->Bool
 |.defer _=>true
 |_=>false
def dX:List Oper->Bool
 |[]=>false
 |o::l=>AE o.op||dX l
def comp (P:Program) (nt:Nat) (rd:Bool):Code->K
 |.skip=>Fa
 |.region _ ops d=>bif d then (bif P.follows .mixedOrders then LG P nt ops (lZ ops.toList 0 .nil)else ia)else (bif rd&&dX ops.toList then ia else rJ P nt ops ops.toList)
 |.seq a b=>GZ (comp P nt rd a) (comp P nt rd b)
 |.cond c a b=>match bQ c with
  |some x=>zB x (comp P nt rd a) (comp P nt rd b)
  |none=>ia
 |.block id b=>sZ id (comp P nt rd b)
 |.loop (.seq a rest)=>match y9 a with
  |some (x,d,ops,os)=>bif rd&&dX os then ia else abq P nt x d ops os (comp P nt rd rest)
  |none=>EC (GZ (comp P nt rd a) (comp P nt rd rest))
 |.loop b=>EC (comp P nt rd b)
 |.exit id=>Lx id
 |.ret=>aav
 |.scope b=>comp P nt rd b
 |.label _=>Fa
 |.rangeFunc f ps a b=>match bQ f with
  |some x=>bif rd then ia else Ag nt x ps.toList a b
  |none=>ia
 |_=>ia
def jN (P:Program):List ResultVar->Option (List (Fr->Hp->Option AV))
 |[]=>some []
 |.tmp t::r=>(jN P r).map ((λ F _=>(ar t).f F)::·)
 |.cell a t::r=>match jN P r,fJ P t,bS P t with
  |some l,some true,some k=>some ((λ F H=>match (ar a).f F with
   |some v=>match cZ k v H with
    |.val v=>some v
    |_=>none
   |none=>none)::l)
  |some l,some false,some _=>some ((λ F H=>match (ar a).f F with
   |some v=>match dP v H with
    |.val v=>some v
    |_=>none
   |none=>none)::l)
  |_,_,_=>none
def uT (F:Fr) (H:Hp):List (Fr->Hp->Option AV)->Option (List AV)
 |[]=>some []
 |x :: r=>match x F H with
  |some v=>match uT F H r with
   |some l=>some (v::l)
   |none=>none
  |none=>none
def uj:List AV->AV
 |[v]=>v
 |l=>.aX l
def ei:List Dm->Hp->Option Hp
 |[],H=>some H
 |.dT m::r,H=>match H.get m with
  |some .jX=>ei r (H.put m none)
  |_=>none
 |.fn _ _::_,_=>none
def Kr:UM->UM
 |.qX _ true=>.ret
 |u=>u
def kg (ce:Ce):List Dm->UM->Hp->Nat->QE
 |[],u,H,n=>.mk u H n
 |.dT b::r,u,H,n=>match H.get b with
  |some .jX=>kg ce r u (H.put b none) n
  |_=>.fail
 |.fn f args::r,u,H,n=>match ce.dcall f args u H n with
  |.mk u' H' n'=>kg ce r (Kr u') H' n'
  |.fail=>.fail
def lq (rs:List (Fr->Hp->Option AV)) (F:Fr):QE->iT
 |.mk .ret H n=>match uT F H rs with
  |some vs=>.mk (uj vs) H n
  |none=>.fail
 |.mk (.qX v false) H n=>.qX v H n
 |_=>.fail
def wv (ce:Ce)(rs:List (Fr->Hp->Option AV)):Mc->iT
 |.mk .normal F H n m=>lq rs F (kg ce m .ret H n)
 |.mk .ret F H n m=>lq rs F (kg ce m .ret H n)
 |.mk (.panic v) F H n m=>lq rs F (kg ce m (.qX v false) H n)
 |.mk (.exit _) _ _ _ _=>.fail
 |.fail=>.fail
inductive aiI where
 |fail
 |mk (o:nz) (F:Fr) (H:Hp) (n:Nat) (u:UM)
structure KS where
 f:Ce->Fr->Hp->Nat->UM->aiI
def KZ (k:K):KS:=.mk <| λ ce F H n u=>match k.f ce F H n []with
 |.mk o F' H' n' []=>.mk o F' H' n' u
 |_=>.fail
def akR (a b:KS):KS:=.mk <| λ ce F H n u=>match a.f ce F H n u with
 |.mk .normal F' H' n' u'=>b.f ce F' H' n' u'
 |r=>r
def adp (g:G)(a b:KS):KS:=.mk <| λ ce F H n u=>match g.f F with
 |some (.bool true)=>a.f ce F H n u
 |some (.bool false)=>b.f ce F H n u
 |_=>.fail
def E8:KS:=.mk <| λ _ _ _ _ _=>.fail
def asL:KS:=.mk <| λ _ F H n u=>.mk .normal F H n u
def opS (pd:Pd)(e:Eff)(next:KS):KS:=.mk <| λ ce F H n u=>match e F H n with
 |.fail=>.fail
 |.val v=>next.f ce (pd.f v F) H n u
 |.new v k=>next.f ce (pd.f v F) (H.put n (some k)) (Nat.succ n) u
 |.upd v b k=>next.f ce (pd.f v F) (H.put b (some k)) n u
 |.mv v b k=>next.f ce (pd.f v F) ((H.put b none).put n (some k)) (Nat.succ n) u
def ak3 (pd:Pd)(next:KS):KS:=.mk <| λ ce F H n u=>match u with
 |.qX v false=>next.f ce (pd.f v F) H n (.qX v true)
 |u=>next.f ce (pd.f (.al .nilIface) F) H n u
def isRecover:Op->Bool
 |.call {callee:=.builtin .recover,args:=_,argTypes:=_}=>true
 |_=>false
def xA:List Oper->Bool
 |[]=>false
 |o::l=>isRecover o.op||xA l
def lU (P : Program) (nt:Nat):List Oper->KS
 |[]=>asL
 |o :: r=>match eV nt o.dst with
  |none=>E8
  |some pd=>match o.guard with
   |some _=>E8
   |none=>match isRecover o.op with
    |true=>ak3 pd (lU P nt r)
    |false=>match dJ P o with
     |some e=>opS pd e (lU P nt r)
     |none=>E8
def fU (P:Program) (nt:Nat):Code->KS
 |.seq a b=>akR (fU P nt a) (fU P nt b)
 |.cond c a b=>match bQ c with
  |some x=>adp x (fU P nt a) (fU P nt b)
  |none=>E8
 |.region id ops false=>match xA ops.toList with
  |true=>lU P nt ops.toList
  |false=>KZ (comp P nt false (.region id ops false))
 |c=>KZ (comp P nt false c)
def Ax (rs:List (Fr->Hp->Option AV)):aiI->QE
 |.mk .normal F H n u=>match uT F H rs with
  |some _=>.mk u H n
  |none=>.fail
 |.mk .ret F H n u=>match uT F H rs with
  |some _=>.mk u H n
  |none=>.fail
 |_=>.fail
structure AF where
 res:List (Fr->Hp->Option AV)
 code:K
 nt:Nat
def LJ (P:Program) (g:FuncId):Option AF:=match P.funcs[g]? with
 |some fn=>match fn.body with
  | some b => match fn.name == "runtime.NumGoroutine" with
   |true=>none
   |false=>match jN P fn.results.toList with
    |some r=>some {res:=r,code:=comp P fn.ntmps false b,nt:=fn.ntmps}
    |none=>none
  |none=>none
 |none=>none
structure AD where
 res:List (Fr->Hp->Option AV)
 code:KS
 nt:Nat
def UC (P:Program) (g:FuncId):Option AD:=match P.funcs[g]? with
 |some fn=>match fn.body with
  | some b => match fn.name == "runtime.NumGoroutine" with
   |true=>none
   |false=>match jN P fn.results.toList with
    |some r=>some {res:=r,code:=fU P fn.ntmps b,nt:=fn.ntmps}
    |none=>none
  |none=>none
 |none=>none
def run (P:Program):Nat->Ce
 |0=>{call:=λ _ _ _ _=>.fail,code:=λ _ _ _ _ _=>.fail,dcall:=λ _ _ _ _ _=>.fail}
 |f + 1 => {
   call:=λ g args H n=>match LJ P g with
    |some af=>match Nat.ble (dF args 0) af.nt with
     |true=>wv (run P f) af.res (af.code.f (run P f) (Tr.bD args 0 .nil) H n [])
     |false=>.fail
    |none=>.fail
   code:=λ nt c F H n=>(comp P nt true c).f (run P f) F H n []
   dcall:=λ g args u H n=>match UC P g with
    |some af=>match Nat.ble (dF args 0) af.nt with
     |true=>Ax af.res (af.code.f (run P f) (Tr.bD args 0 .nil) H n u)
     |false=>.fail
    |none=>.fail}
end Go.Abs
namespace Go.Abs
open List
abbrev Ph:=Nat->Option (Nat×Nat×Nat)
abbrev Da:=Nat->Option (Array Value)
abbrev Hf:=Nat->Option br
abbrev Ff:=Nat->Option AV
mutual
inductive VR (φ:Ph)(D:Da):AV->Value->Prop
 |int (k n):VR φ D (.int k n) (.int k n)
 |bool (b):VR φ D (.bool b) (.bool b)
 |str (s:ByteArray) (l:List Nat):s.data.toList.map UInt8.toNat=l->VR φ D (.str l) (.string s)
 |ptr (b o cb co cz):φ b=some (cb,co,cz)->VR φ D (.ptr b o) (.pointer (some ⟨cb,co+o,none⟩))
 |sl (b o len sz cb co cz cap ad):φ b=some (cb,co,cz)->len<=cap->(0<cap->ad=⟨cb,co+o,none⟩/\co+o+cap*sz<=cz) ->
   VR φ D (.sl b o len sz) (.slice (some ad) len cap)
 |agg (cs l n):bO φ D cs l->cs.length=n->VR φ D (.agg cs n) (.agg ⟨l⟩)
 |aX (cs l):bO φ D cs l->VR φ D (.aX cs) (.tuple ⟨l⟩)
 |kG (t v x):VR φ D v x->VR φ D (.kG t v) (.iface t x)
 |fn (f a b x y):bO φ D a x->bO φ D b y->VR φ D (.fn f a b) (.func f ⟨x⟩ ⟨y⟩)
 |map (b cb co cz):φ b=some (cb,co,cz)->VR φ D (.map b) (.map (some cb))
 |ds (cs len sz cap cb co cells l):D cb=some cells->l=(cells.toList.drop co).take (len*sz)->cs.length=len*sz->bO φ D cs l->len<=cap ->
   VR φ D (.ds cs len sz) (.slice (some ⟨cb,co,none⟩) len cap)
 |nZ (sz cap ad):VR φ D (.ds [] 0 sz) (.slice (some ad) 0 cap)
 |rH (sz):VR φ D (.ds [] 0 (sz+1)) (.slice none 0 0)
 |dp (cs cb co cells l):D cb=some cells->l=(cells.toList.drop co).take cs.length->bO φ D cs l->VR φ D (.dp cs) (.pointer (some ⟨cb,co,none⟩))
 |jv (b cb co cz):φ b=some (cb,co,cz)->VR φ D (.jv b) (.func (.yield cb) #[] #[])
 |al (v):atom v=true->VR φ D (.al v) v
inductive bO (φ:Ph)(D:Da):List AV->List Value->Prop
 |nil:bO φ D [] []
 |cons (v x vs xs):VR φ D v x->bO φ D vs xs->bO φ D (v::vs) (x::xs)
end
section
variable {φ φ':Ph}{D D':Da}
mutual
theorem VR.mono (hφ:∀b x,φ b=some x->φ' b=some x)(hD:∀c x,D c=some x->D' c=some x):∀ {v x},VR φ D v x->VR φ' D' v x
 |_,_,.int _ _=>.int _ _
 |_,_,.bool _=>.bool _
 |_,_,.str _ _ h=>.str _ _ h
 |_,_,.ptr _ _ _ _ _ h=>.ptr _ _ _ _ _ (hφ _ _ h)
 |_,_,.sl _ _ _ _ _ _ _ _ _ h a b=>.sl _ _ _ _ _ _ _ _ _ (hφ _ _ h) a b
 |_,_,.agg _ _ _ h e=>.agg _ _ _ (bO.mono hφ hD h) e
 |_,_,.aX _ _ h=>.aX _ _ (bO.mono hφ hD h)
 |_,_,.kG _ _ _ h=>.kG _ _ _ (VR.mono hφ hD h)
 |_,_,.fn _ _ _ _ _ h k=>.fn _ _ _ _ _ (bO.mono hφ hD h) (bO.mono hφ hD k)
 |_,_,.map _ _ _ _ h=>.map _ _ _ _ (hφ _ _ h)
 |_,_,.ds _ _ _ _ _ _ _ _ h a b c d=>.ds _ _ _ _ _ _ _ _ (hD _ _ h) a b (bO.mono hφ hD c) d
 |_,_,.nZ _ _ _=>.nZ _ _ _
 |_,_,.rH _=>.rH _
 |_,_,.dp _ _ _ _ _ h a b=>.dp _ _ _ _ _ (hD _ _ h) a (bO.mono hφ hD b)
 |_,_,.jv _ _ _ _ h=>.jv _ _ _ _ (hφ _ _ h)
 |_,_,.al _ h=>.al _ h
theorem bO.mono (hφ:∀b x,φ b=some x->φ' b=some x)(hD:∀c x,D c=some x->D' c=some x):∀ {v x},bO φ D v x->bO φ' D' v x
 |_,_,.nil=>.nil
 |_,_,.cons _ _ _ _ h k=>.cons _ _ _ _ (VR.mono hφ hD h) (bO.mono hφ hD k)
end
theorem bO.length:∀ {vs xs},bO φ D vs xs->vs.length=xs.length
 |_,_,.nil=>rfl
 |_,_,.cons _ _ _ _ _ k=>by simp[bO.length k]
theorem bO.get {vs:List AV}{xs:List Value}(h:bO φ D vs xs):∀ {i:Nat}{v:AV},vs[i]?=some v->∃x,xs[i]?=some x/\VR φ D v x:=by
 induction vs generalizing xs with
 |nil=>intro i v hv;simp at hv
 |cons a r ih =>
  cases h with
  |cons _ x _ xs h1 h2 =>
   intro i v hv
   cases i with
   |zero=>simp at hv;subst hv;exact⟨x,rfl,h1⟩
   |succ i=>simp at hv;simpa using ih h2 hv
theorem bO.mz:∀ {vs:List AV}{xs:List Value},vs.length=xs.length->(∀(i:Nat)(v:AV),vs[i]?=some v->∃x,xs[i]?=some x/\VR φ D v x)->bO φ D vs xs
 |[],[],_,_=>.nil
 |[],_::_,h,_=>by simp at h
 |_::_,[],h,_=>by simp at h
 |v::vs,x::xs,h,hg=>by
  obtain⟨y,hy,hv⟩:=hg 0 v rfl;simp at hy;subst hy;exact .cons _ _ _ _ hv (bO.mz (by simpa using h) λ i u hu=>hg (i+1) u (by simpa using hu))
theorem bO.append {a b x y}(h:bO φ D a x)(k:bO φ D b y):bO φ D (a++b) (x++y):=by
 induction a generalizing x with
 |nil=>cases h;simpa using k
 |cons v r ih=>cases h with
  |cons _ u _ us h1 h2=>exact .cons _ _ _ _ h1 (ih h2)
theorem bO.drop {a x}(n:Nat)(h:bO φ D a x):bO φ D (a.drop n) (x.drop n):=by
 induction n generalizing a x with
 |zero=>simpa using h
 |succ n ih=>cases h with
  |nil=>exact .nil
  |cons _ _ _ _ _ h2=>simpa using ih h2
theorem bO.take {a x}(n:Nat)(h:bO φ D a x):bO φ D (a.take n) (x.take n):=by
 induction n generalizing a x with
 |zero=>simpa using bO.nil
 |succ n ih=>cases h with
  |nil=>exact .nil
  |cons _ _ _ _ h1 h2=>simpa using bO.cons _ _ _ _ h1 (ih h2)
def cO:Value->Bool
 |.agg _|.tuple _=>false
 |_=>true
theorem FY {x:Value}(h:atom x=true):cO x=true:=by
 cases x<;>simp_all [atom,cO]
theorem cells_one {x:Value}(h:cO x=true):x.cells.toList=[x]:=by
 cases x<;>simp_all [cO,Value.cells]
theorem VR.cells {v x}(h:VR φ D v x):bO φ D v.cells x.cells.toList:=by
 cases h with
 |agg _ _ _ h _=>exact h
 |al _ hv=>rw[cells_one (FY hv)];exact .cons _ _ _ _ (.al _ hv) .nil
 |nZ=>exact .cons _ _ _ _ (.nZ _ _ _) .nil
 |rH=>exact .cons _ _ _ _ (.rH _) .nil
 |_=>exact .cons _ _ _ _ (by constructor<;>assumption) .nil
theorem VR.len {v x}(h:VR φ D v x):v.len=v.cells.length:=by
 cases h with
 |agg _ _ _ _ h=>exact h.symm
 |_=>rfl
theorem VR.one {v x}(h:VR φ D v x)(ho:v.one=true):cO x=true:=by
 cases h with
 |al _ hv=>exact FY hv
 |agg=>simp[AV.one]at ho
 |aX=>simp[AV.one]at ho
 |_=>rfl
end
def gu:nz->Option Code
 |.normal=>none
 |.exit i=>some (.exit i)
 |.ret=>some .ret
 |.panic _=>none
def zr:List (IntKind×Int)->List Value
 |[]=>[]
 |(k,n)::r=>.int k n::zr r
def GD (g:Nat):Option (Array Value):=match ahx g with
 |[]=>amK g
 |a::r=>some ⟨zr (a::r)⟩
def GB (D:Da):Prop:=∀c x,GD c=some x->D c=some x
theorem GB.mono {D D':Da}(hD:∀c x,D c=some x->D' c=some x)(h:GB D):GB D':=λ c x hx=>hD c x (h c x hx)
theorem zp {φ:Ph}{D:Da}:∀l:List (IntKind×Int),bO φ D (AU l) (zr l)
 |[]=>.nil
 |(_,_)::r=>.cons _ _ _ _ (.int _ _) (zp r)
theorem zq:∀l:List (IntKind×Int),(AU l).length=(zr l).length
 |[]=>rfl
 |(_,_)::r=>congrArg Nat.succ (zq r)
theorem ahy {φ:Ph}{D:Da}(hD:GB D){g:Nat}{l:List AV}(h:gAv g=some l):VR φ D (.dp l) (.pointer (some ⟨g,0,none⟩)):=by
 unfold gAv at h
 split at h
 ·cases h
 rename_i a r hg;injection h with h;subst h;refine .dp _ _ _ ⟨zr (a::r)⟩ (zr (a::r)) (hD g _ (by unfold GD;rw[hg])) ?_ (zp (a::r));rw[zq,drop_zero];exact(take_length ..).symm
def FR (φ:Ph)(D:Da)(F:Ff)(tmps:Array Value):Prop:=(∀t v,F t=some v->∃x,tmps[t]?=some x/\VR φ D v x)/\GB D
inductive ve (φ:Ph)(D:Da):List (AV×AV×Nat)->List MapEntry->Prop
 |nil:ve φ D [] []
 |cons (k v b x y es l):VR φ D k x->VR φ D v y->ve φ D es l->ve φ D ((k,v,b)::es) (⟨x,y,b⟩::l)
def Nfr (k:Nat)(fr:Nat×Nat):Prop:=fr.1=fr.2∨k<=fr.1
theorem Nfr.at {k:Nat}{fr:Nat×Nat}(h:Nfr k fr):∀i,i<k->¬(fr.1<=i/\i<fr.2):=by
 intro i hi h2;unfold Nfr at h;omega
def iQ (φ:Ph)(D:Da)(w:World)(p:Nat×Nat×Nat):br->Prop
 |.cells u z bs t=>∃c e fr,w.heap[p.1]?=some (.cells c e fr)/\c.size=p.2.2/\Nfr c.size fr /\
   (∀i v,gz u z bs t i=some v->∃x,c[p.2.1+i]?=some x/\VR φ D v x)/\(t=.nil->z=[]->bs.length=u)/\p.2.1+u<=p.2.2
 |.map es clk=>∃zF,w.heap[p.1]?=some (.map zF clk)/\ve φ D es zF.toList
 |.loop st j nt F ps a b=>∃(r:Loop),w.heap[p.1]?=some (.loop r)/\r.state=st/\r.pending=gu j/\r.tmps.size=nt/\FR φ D F.get r.tmps/\r.params.toList=ps/\r.assign=a/\r.body=b
 |.jX=>w.heap[p.1]?=some (.deferred (some []))
 |.iter m since seen last=>p.2.1=0/\∃cm:Option Nat,w.heap[p.1]?=some (.mapIter cm since ⟨seen⟩ last)/\(match m with
   |none=>cm=none
   |some b=>∃cb co cz,φ b=some (cb,co,cz)/\cm=some cb)
theorem FR.mono {φ φ' D D' F tmps}(hφ:∀b x,φ b=some x->φ' b=some x)(hD:∀c x,D c=some x->D' c=some x)(h:FR φ D F tmps):FR φ' D' F tmps:=
 ⟨λ t v hv=>let ⟨x,a,b⟩:=h.1 t v hv;⟨x,a,b.mono hφ hD⟩,h.2.mono hD⟩
theorem ve.mono {φ φ' D D'}(hφ:∀b x,φ b=some x->φ' b=some x)(hD:∀c x,D c=some x->D' c=some x):∀ {es l},ve φ D es l->ve φ' D' es l
 |_,_,.nil=>.nil
 |_,_,.cons _ _ _ _ _ _ _ h k r=>.cons _ _ _ _ _ _ _ (h.mono hφ hD) (k.mono hφ hD) (ve.mono hφ hD r)
theorem iQ.mono {φ φ' D D' w w' p k}(hφ:∀b x,φ b=some x->φ' b=some x)(hD:∀c x,D c=some x->D' c=some x)
  (hw:w'.heap[p.1]?=w.heap[p.1]?)(h:iQ φ D w p k):iQ φ' D' w' p k:=by
 cases k with
 |cells u z bs t =>
  obtain⟨c,e,fr,h1,h2,h3,h4,h5⟩:=h;exact⟨c,e,fr,hw.trans h1,h2,h3,λ i v hv=>let ⟨x,a,b⟩:=h4 i v hv;⟨x,a,b.mono hφ hD⟩,h5⟩
 |map es clk=>obtain⟨zF,h1,h2⟩:=h;exact⟨zF,hw.trans h1,h2.mono hφ hD⟩
 |loop st j nt F ps a b =>
  obtain⟨r,h1,h2,h3,h4,h5,h6⟩:=h;exact⟨r,hw.trans h1,h2,h3,h4,h5.mono hφ hD,h6⟩
 |jX=>exact hw.trans h
 |iter m since seen last =>
  obtain⟨h0,cm,h1,h2⟩:=h;refine⟨h0,cm,hw.trans h1,?_⟩
  cases m with
  |none=>exact h2
  |some b=>obtain⟨cb,co,cz,h3,h4⟩:=h2;exact⟨cb,co,cz,hφ _ _ h3,h4⟩
def Dat (D:Da)(w:World):Prop:=(∀c x,D c=some x->∃e fr,w.heap[c]?=some (.cells x e fr))/\GB D
structure Rel (φ:Ph)(D:Da)(h:Hf)(w:World):Prop where
 blk:∀b k,h b=some k->∃p,φ b=some p/\p.1<w.heap.size/\iQ φ D w p k
 inj:∀b c p q,h b≠none->h c≠none->φ b=some p->φ c=some q->p.1=q.1->b=c
 sep:∀b p,h b≠none->φ b=some p->D p.1=none
 ep:Dat D w
structure Ext (φ:Ph)(D:Da)(h:Hf)(w:World)(n:Nat)(φ':Ph)(D':Da)(h':Hf)(w':World)(n':Nat):Prop where
 le:n<=n'
 phi:∀b x,φ b=some x->φ' b=some x
 new:∀b,φ b=none->φ' b≠none->n<=b/\b<n'
 ep:∀c x,D c=some x->D' c=some x
 size:w.heap.size<=w'.heap.size
 keep:∀c,c<w.heap.size->(∀b p,h b≠none->φ b=some p->p.1≠c)->w'.heap[c]?=w.heap[c]?
 live:∀b p,h' b≠none->φ' b=some p->w.heap.size<=p.1∨∃b0 p0,h b0≠none/\φ b0=some p0/\p0.1=p.1
 jW:∀c,D' c≠none->D c≠none∨w.heap.size<=c∨∃b0 p0,h b0≠none/\φ b0=some p0/\p0.1=c
 hid:∀b,h' b≠none->h b≠none∨(n<=b/\b<n')
 os:w'.os=w.os
 out:w'.output=w.output
def bW (φ:Ph)(n n':Nat):Prop:=∀b,n<=b->b<n'->φ b=none
theorem Ext.refl (φ:Ph)(D:Da)(h:Hf)(w:World)(n:Nat):Ext φ D h w n φ D h w n:=
 ⟨aP _,λ _ _ h=>h,λ _ h k=>ai h k,λ _ _ h=>h,aP _,λ _ _ _=>rfl,λ _ _ a b=>.inr ⟨_,_,a,b,rfl⟩,λ _ h=>.inl h,λ _ h=>.inl h,rfl,rfl⟩
theorem Ext.trans {φ D h w n φ1 D1 h1 w1 n1 φ2 D2 h2 w2 n2}(a:Ext φ D h w n φ1 D1 h1 w1 n1)(b:Ext φ1 D1 h1 w1 n1 φ2 D2 h2 w2 n2):Ext φ D h w n φ2 D2 h2 w2 n2 where
 le:=uo a.le b.le
 phi:=λ c x hx=>b.phi _ _ (a.phi _ _ hx)
 new:=λ c h0 h2=>by
  have ha:=a.le;have hb:=b.le
  cases h1:φ1 c with
  |none=>have:=b.new c h1 h2;omega
  |some x=>have:=a.new c h0 (by simp[h1]);omega
 ep:=λ c x hx=>b.ep _ _ (a.ep _ _ hx)
 size:=uo a.size b.size
 keep:=λ c hc hn=>by
  have hc1:=Nat.lt_of_lt_of_le hc a.size;rw[b.keep c hc1 λ d p hd hp e=>?_,a.keep c hc hn]
  rcases a.live d p hd hp with h|⟨b0,p0,x,y,z⟩
  ·omega
  exact hn b0 p0 x y (z.trans e)
 live:=λ c p hc hp=>by
  have ha:=a.size
  rcases b.live c p hc hp with h|⟨b0,p0,x,y,z⟩
  ·exact .inl (by omega)
  rcases a.live b0 p0 x y with h|⟨b1,p1,x1,y1,z1⟩
  ·exact .inl (by omega)
  exact .inr ⟨b1,p1,x1,y1,z1.trans z⟩
 jW:=λ c hc=>by
  have ha:=a.size
  rcases b.jW c hc with h|h|⟨b0,p0,x,y,z⟩
  ·exact a.jW c h
  ·exact .inr (.inl (by omega))
  rcases a.live b0 p0 x y with h|⟨b1,p1,x1,y1,z1⟩
  ·exact .inr (.inl (by omega))
  exact .inr (.inr ⟨b1,p1,x1,y1,z1.trans z⟩)
 hid := λ c hc=>by
  have ha:=a.le;have hb:=b.le
  rcases b.hid c hc with h|h
  ·rcases a.hid c h with h|h
   ·exact .inl h
   exact .inr (by omega)
  exact .inr (by omega)
 os:=b.os.trans a.os
 out:=b.out.trans a.out
theorem bW.left {φ n n1 n2}(h:bW φ n n2)(h2:n1<=n2):bW φ n n1:=λ b x y=>h b x (by omega)
theorem bW.step {φ D h w n φ1 D1 h1 w1 n1 n2}(hf:bW φ n n2)(e:Ext φ D h w n φ1 D1 h1 w1 n1):bW φ1 n1 n2:=by
 intro b x y
 cases hb:φ1 b with
 |none=>rfl
 |some p =>
  have h0:=hf b (by have:=e.le;omega) y;have:=e.new b h0 (by simp[hb]);omega
def Hf.set (h:Hf)(b:Nat)(k:Option br):Hf:=λ c=>if c=b then k else h c
def Ph.set (φ:Ph)(b:Nat)(p:Nat×Nat×Nat):Ph:=λ c=>if c=b then some p else φ c
def World.newObj (w:World)(o:Obj):World:={w with heap:=w.heap.push o}
def World.putObj (w:World)(c:Nat)(o:Obj):World:={w with heap:=w.heap.setIfInBounds c o}
theorem Ph.gj {φ:Ph}{n:Nat} {p}(hn:φ n=none):∀b x,φ b=some x->(φ.set n p) b=some x:=by
 intro b x hx;unfold Ph.set
 split
 ·subst b;simp[hn]at hx
 exact hx
theorem mr {φ D h w n}(hr:Rel φ D h w)(hf:bW φ n (n+1))(o:Obj)(cz:Nat)(k:br)
  (hk:iQ (φ.set n (w.heap.size,0,cz)) D (World.newObj w o) (w.heap.size,0,cz) k):
  Rel (φ.set n (w.heap.size,0,cz)) D (h.set n (some k)) (World.newObj w o) /\
   Ext φ D h w n (φ.set n (w.heap.size,0,cz)) D (h.set n (some k)) (World.newObj w o) (n+1):=by
 have hn:φ n=none:=hf n (aP _) (by omega);have hm:=Ph.gj (p:=(w.heap.size,0,cz)) hn
 have hhn:h n=none:=by
  cases hx:h n with
  |none=>rfl
  |some k=>obtain⟨p,hp,_⟩:=hr.blk n k hx;simp[hn]at hp
 have hold:∀c,c<w.heap.size->(World.newObj w o).heap[c]?=w.heap[c]?:=by
  intro c hc;simp[World.newObj,Array.getElem?_push,Nat.ne_of_lt hc]
 have hlt:∀b p,h b≠none->φ b=some p->p.1<w.heap.size:=by
  intro b p hb hp
  cases hx:h b with
  |none=>exact ai hx hb
  |some k=>obtain⟨q,hq,hl,_⟩:=hr.blk b k hx;rw[hp]at hq;injection hq with hq;subst hq;exact hl
 have hdl:∀c x,D c=some x->c<w.heap.size:=by
  intro c x hx;obtain⟨e,fr,hh⟩:=hr.ep.1 c x hx;exact(nJ.1 hh).1
 refine⟨⟨?_,?_,?_,?_⟩,⟨by omega,hm,?_,λ _ _ h=>h,?_,?_,?_,λ _ h=>.inl h,?_,rfl,rfl⟩⟩
 ·intro b k' hb;unfold Hf.set at hb
  split at hb
  ·subst b;injection hb with hb;subst hb;exact⟨_,by simp[Ph.set],by simp[World.newObj],hk⟩
  obtain⟨p,hp,hl,hb'⟩:=hr.blk b k' hb;exact⟨p,hm _ _ hp,by simp[World.newObj];omega,hb'.mono hm (λ _ _ h=>h) (hold _ hl)⟩
 ·intro b c p q hb hc hp hq e;unfold Hf.set at hb hc;unfold Ph.set at hp hq
  by_cases e1:b=n<;>by_cases e2:c=n<;>simp[e1,e2]at hb hc hp hq ⊢
  ·have:=hlt c q hc hq;rw[<-hp]at e;simp at e;omega
  ·have:=hlt b p hb hp;rw[<-hq]at e;simp at e;omega
  exact hr.inj b c p q hb hc hp hq e
 ·intro b p hb hp;unfold Hf.set at hb;unfold Ph.set at hp
  by_cases e1:b=n<;>simp[e1]at hb hp
  ·rw[<-hp]
   cases hx:D w.heap.size with
   |none=>rfl
   |some x=>have:=hdl _ _ hx;omega
  exact hr.sep b p hb hp
 ·refine⟨λ c x hx=>?_,hr.ep.2⟩;obtain⟨e,fr,hh⟩:=hr.ep.1 c x hx;exact⟨e,fr,(hold c (hdl c x hx)).trans hh⟩
 ·intro b h0 h1;unfold Ph.set at h1
  by_cases e1:b=n
  ·omega
  simp[e1,h0]at h1
 ·simp[World.newObj]
 ·exact λ c hc _=>hold c hc
 ·intro b p hb hp;unfold Hf.set at hb;unfold Ph.set at hp
  by_cases e1:b=n<;>simp[e1]at hb hp
  ·exact .inl (by simp[<-hp])
  exact .inr ⟨b,p,hb,hp,rfl⟩
 intro b hb;unfold Hf.set at hb
 by_cases e1:b=n
 ·exact .inr (by omega)
 simp[e1]at hb;exact .inl hb
theorem Rel.block {φ D h w b k}(hr:Rel φ D h w)(hb:h b=some k) {p}(hp:φ b=some p):p.1<w.heap.size/\iQ φ D w p k:=by
 obtain⟨q,hq,hl,hk⟩:=hr.blk b k hb;rw[hp]at hq;injection hq with hq;subst hq;exact⟨hl,hk⟩
theorem Ky {φ D h w n b k p}(hr:Rel φ D h w)(hb:h b≠none)(hp:φ b=some p)(w':World)
  (hw:∀c,c≠p.1->w'.heap[c]?=w.heap[c]?)(hs:w'.heap.size=w.heap.size)(hos:w'.os=w.os)(hout:w'.output=w.output)
  (hk:iQ φ D w' p k):Rel φ D (h.set b (some k)) w'/\Ext φ D h w n φ D (h.set b (some k)) w' n:=by
 have hlive:∀c,(h.set b (some k)) c≠none↔h c≠none:=by
  intro c;unfold Hf.set;by_cases e:c=b<;>simp[e,hb]
 refine⟨⟨?_,?_,?_,?_⟩,⟨aP _,λ _ _ h=>h,λ _ a c=>ai a c,λ _ _ h=>h,by omega,?_,?_,λ _ h=>.inl h,?_,hos,hout⟩⟩
 ·intro c k' hc;unfold Hf.set at hc
  by_cases e:c=b
  ·simp[e]at hc;subst hc;subst e;refine⟨p,hp,?_,hk⟩
   cases hx:h c with
   |none=>exact ai hx hb
   |some k0=>rw[hs];exact(hr.block hx hp).1
  simp[e]at hc;obtain⟨q,hq,hl,hk'⟩:=hr.blk c k' hc;exact⟨q,hq,by omega,hk'.mono (λ _ _ h=>h) (λ _ _ h=>h) (hw _ λ e'=>e (hr.inj c b q p (by simp[hc]) hb hq hp e'))⟩
 ·intro c d q r hc hd;exact hr.inj c d q r ((hlive c).1 hc) ((hlive d).1 hd)
 ·intro c q hc;exact hr.sep c q ((hlive c).1 hc)
 ·refine⟨λ c x hx=>?_,hr.ep.2⟩;obtain⟨e,fr,hh⟩:=hr.ep.1 c x hx;refine⟨e,fr,(hw c λ e'=>?_).trans hh⟩;have:=hr.sep b p hb hp;rw[<-e',hx]at this;cases this
 ·intro c _ hn;exact hw c λ e=>hn b p hb hp e.symm
 ·intro c q hc hq;exact .inr ⟨c,q,(hlive c).1 hc,hq,rfl⟩
 intro c hc;exact .inl ((hlive c).1 hc)
theorem Rz {φ D h w n b k p q}(hr:Rel φ D h w) (hf:bW φ n (n+1)) (hb:h b≠none) (hp:φ b=some p) (hq:q.1=p.1) (w':World)
  (hw:∀c,c≠p.1->w'.heap[c]?=w.heap[c]?)(hs:w'.heap.size=w.heap.size)(hos:w'.os=w.os)(hout:w'.output=w.output)
  (hk:iQ (φ.set n q) D w' q k):
  Rel (φ.set n q) D ((h.set b none).set n (some k)) w'/\Ext φ D h w n (φ.set n q) D ((h.set b none).set n (some k)) w' (n+1):=by
 have hn:φ n=none:=hf n (aP _) (by omega);have hm:=Ph.gj (p:=q) hn
 have hhn:h n=none:=by
  cases hx:h n with
  |none=>rfl
  |some k=>obtain⟨p,hp,_⟩:=hr.blk n k hx;simp[hn]at hp
 have hbn:b≠n:=λ e=>by rw[e]at hb;exact hb hhn
 have hget:∀c,((h.set b none).set n (some k)) c=if c=n then some k else if c=b then none else h c:=λ c=>rfl
 refine⟨⟨?_,?_,?_,?_⟩,⟨by omega,hm,?_,λ _ _ h=>h,by omega,?_,?_,λ _ h=>.inl h,?_,hos,hout⟩⟩
 ·intro c k' hc;rw[hget]at hc
  by_cases e:c=n
  ·simp[e]at hc;subst hc;subst e;refine⟨q,by simp[Ph.set],?_,hk⟩
   cases hx:h b with
   |none=>exact ai hx hb
   |some k0=>rw[hs,hq];exact(hr.block hx hp).1
  by_cases e2:c=b
  ·simp[e2]at hc;omega
  simp[e,e2]at hc;obtain⟨r,hr',hl,hk'⟩:=hr.blk c k' hc;exact⟨r,hm _ _ hr',by omega,hk'.mono hm (λ _ _ h=>h) (hw _ λ e'=>e2 (hr.inj c b r p (by simp[hc]) hb hr' hp e'))⟩
 ·intro c d r s hc hd hr' hs' e;rw[hget]at hc hd;unfold Ph.set at hr' hs'
  by_cases e1:c=n<;>by_cases e2:d=n<;>simp[e1,e2]at hc hd hr' hs' ⊢
  ·subst hr';have:=hr.inj b d p s hb hd.2 hp hs' (by rw[<-hq];exact e);omega
  ·subst hs';have:=hr.inj b c p r hb hc.2 hp hr' (by rw[<-hq];exact e.symm);omega
  exact hr.inj c d r s hc.2 hd.2 hr' hs' e
 ·intro c r hc hr';rw[hget]at hc;unfold Ph.set at hr'
  by_cases e1:c=n<;>simp[e1]at hc hr'
  ·subst hr';rw[hq];exact hr.sep b p hb hp
  exact hr.sep c r hc.2 hr'
 ·refine⟨λ c x hx=>?_,hr.ep.2⟩;obtain⟨e,fr,hh⟩:=hr.ep.1 c x hx;refine⟨e,fr,(hw c λ e'=>?_).trans hh⟩;have:=hr.sep b p hb hp;rw[<-e',hx]at this;cases this
 ·intro c h0 h1;unfold Ph.set at h1
  by_cases e1:c=n
  ·omega
  simp[e1,h0]at h1
 ·intro c _ hn';exact hw c λ e=>hn' b p hb hp e.symm
 ·intro c r hc hr';rw[hget]at hc;unfold Ph.set at hr'
  by_cases e1:c=n<;>simp[e1]at hc hr'
  ·subst hr';exact .inr ⟨b,p,hb,hp,hq.symm⟩
  exact .inr ⟨c,r,hc.2,hr',rfl⟩
 intro c hc;rw[hget]at hc
 by_cases e1:c=n
 ·exact .inr (by omega)
 simp[e1]at hc;exact .inl hc.2
theorem RA {φ D h w n b}(hr:Rel φ D h w):Rel φ D (h.set b none) w/\Ext φ D h w n φ D (h.set b none) w n:=by
 have hl:∀c,(h.set b none) c≠none->h c≠none:=by
  intro c;unfold Hf.set;by_cases e:c=b<;>simp[e]
 refine⟨⟨?_,λ c d q r hc hd=>hr.inj c d q r (hl c hc) (hl d hd),λ c q hc=>hr.sep c q (hl c hc),hr.ep⟩,
  ⟨aP _,λ _ _ h=>h,λ _ a c=>ai a c,λ _ _ h=>h,aP _,λ _ _ _=>rfl,λ c q hc hq=>.inr ⟨c,q,hl c hc,hq,rfl⟩,λ _ h=>.inl h,λ c hc=>.inl (hl c hc),rfl,rfl⟩⟩
 intro c k hc;unfold Hf.set at hc
 by_cases e:c=b
 ·simp[e]at hc
 simp[e]at hc;exact hr.blk c k hc
end Go.Abs
namespace Go.Abs
open List
theorem cJ {α:Type}(n:Nat)(k:Nat->α):fY n k=k n:=by cases n<;>rfl
theorem lT {α:Type}(n:Int)(k:Int->α):TU n k=k n:=by
 cases n with
 |ofNat m=>exact cJ m (λ m=>k (.ofNat m))
 |negSucc m=>exact cJ m (λ m=>k (.negSucc m))
@[simp] theorem aj0 {α:Type}(a b:α):aip true a b=a:=rfl
@[simp] theorem aio {α:Type}(a b:α):aip false a b=b:=rfl
@[simp] theorem Pn {α β:Type}(x:α)(d:β)(k:α->β):kK (some x) d k=k x:=rfl
@[simp] theorem ajn {α β:Type}(d:β)(k:α->β):kK none d k=d:=rfl
namespace Tr
variable {α:Type}
@[simp] theorem get_nil (n:Nat):(Tr.nil:Tr α).get n=none:=rfl
theorem cH (v:Option α) (l r:Tr α) (n:Nat):(Tr.node v l r).get n =
  if n=0 then v else if (n - 1) % 2=0 then l.get ((n - 1) / 2)else r.get ((n - 1) / 2):=by
 show Bool.rec (motive:=λ _=>Option α) (Bool.rec (motive:=λ _=>Option α) (r.get ((n - 1) / 2)) (l.get ((n - 1) / 2)) (Nat.beq ((n - 1) % 2) 0)) v (Nat.beq n 0)=_
 by_cases h:n=0
 ·subst h;rfl
 have h1:Nat.beq n 0=false:=by
  cases hb:Nat.beq n 0 with
  |false=>rfl
  |true=>exact ai (b9 hb) h
 rw[h1,ah h]
 by_cases h2:(n - 1) % 2=0
 ·rw[ao h2];have h3:Nat.beq ((n - 1) % 2) 0=true:=by rw[h2];rfl
  rw[h3]
 rw[ah h2]
 have h3:Nat.beq ((n - 1) % 2) 0=false:=by
  cases hb:Nat.beq ((n - 1) % 2) 0 with
  |false=>rfl
  |true=>exact ai (b9 hb) h2
 rw[h3]
theorem DX (f n:Nat) (v:Option α):single (f+1) n v =
  if n=0 then .node v .nil .nil else if (n - 1) % 2=0 then .node none (single f ((n - 1) / 2) v) .nil else .node none .nil (single f ((n - 1) / 2) v):=by
 show Bool.rec (motive:=λ _=>Tr α) (Bool.rec (motive:=λ _=>Tr α) (.node none .nil (single f ((n - 1) / 2) v)) (.node none (single f ((n - 1) / 2) v) .nil) (Nat.beq ((n - 1) % 2) 0)) (.node v .nil .nil) (Nat.beq n 0)=_
 by_cases h:n=0
 ·subst h;rfl
 have h1:Nat.beq n 0=false:=by
  cases hb:Nat.beq n 0 with
  |false=>rfl
  |true=>exact ai (b9 hb) h
 rw[h1,ah h]
 by_cases h2:(n - 1) % 2=0
 ·rw[ao h2,show Nat.beq ((n - 1) % 2) 0=true by rw[h2];rfl]
 rw[ah h2]
 have h3:Nat.beq ((n - 1) % 2) 0=false:=by
  cases hb:Nat.beq ((n - 1) % 2) 0 with
  |false=>rfl
  |true=>exact ai (b9 hb) h2
 rw[h3]
theorem Si (x:Option α) (l r:Tr α) (n:Nat) (v:Option α):(Tr.node x l r).put n v =
  if n=0 then .node v l r else if (n - 1) % 2=0 then .node x (l.put ((n - 1) / 2) v) r else .node x l (r.put ((n - 1) / 2) v):=by
 show Bool.rec (motive:=λ _=>Tr α) (Bool.rec (motive:=λ _=>Tr α) (.node x l (r.put ((n - 1) / 2) v)) (.node x (l.put ((n - 1) / 2) v) r) (Nat.beq ((n - 1) % 2) 0)) (.node v l r) (Nat.beq n 0)=_
 by_cases h:n=0
 ·subst h;rfl
 have h1:Nat.beq n 0=false:=by
  cases hb:Nat.beq n 0 with
  |false=>rfl
  |true=>exact ai (b9 hb) h
 rw[h1,ah h]
 by_cases h2:(n - 1) % 2=0
 ·rw[ao h2,show Nat.beq ((n - 1) % 2) 0=true by rw[h2];rfl]
 rw[ah h2]
 have h3:Nat.beq ((n - 1) % 2) 0=false:=by
  cases hb:Nat.beq ((n - 1) % 2) 0 with
  |false=>rfl
  |true=>exact ai (b9 hb) h2
 rw[h3]
theorem pj {n m:Nat}(hn:n≠0)(hm:m≠0)(h:(n - 1) % 2=(m - 1) % 2)(e:(n - 1) / 2=(m - 1) / 2):n=m:=by omega
theorem qI:∀(f n m:Nat) (v:Option α),n<f->(single f n v).get m=if m=n then v else none
 |0,n,m,v,h=>by omega
 |f + 1,n,m,v,h=>by
  rw[DX]
  by_cases hn:n=0
  ·subst hn;rw[ao rfl,cH]
   by_cases hm:m=0
   ·simp[hm]
   simp[hm]
  rw[ah hn];have hlt:(n - 1) / 2<f:=by omega
  by_cases h2:(n - 1) % 2=0
  ·rw[ao h2,cH]
   by_cases hm:m=0
   ·rw[ao hm,ah (by omega)]
   rw[ah hm]
   by_cases h3:(m - 1) % 2=0
   ·rw[ao h3,qI f _ _ v hlt]
    by_cases e:m=n
    ·subst e;simp
    rw[ah e,ah (λ e'=>e (pj hm hn (by omega) e'))]
   rw[ah h3,ah (λ e=>h3 (by subst e;exact h2))];rfl
  rw[ah h2,cH]
  by_cases hm:m=0
  ·rw[ao hm,ah (by omega)]
  rw[ah hm]
  by_cases h3:(m - 1) % 2=0
  ·rw[ao h3,ah (λ e=>h2 (by subst e;exact h3))];rfl
  rw[ah h3,qI f _ _ v hlt]
  by_cases e:m=n
  ·subst e;simp
  rw[ah e,ah (λ e'=>e (pj hm hn (by omega) e'))]
theorem get_put (t:Tr α):∀(n m:Nat) (v:Option α),(t.put n v).get m=if m=n then v else t.get m:=by
 induction t with
 |nil=>intro n m v;show (single (n+1) n v).get m=_;rw[qI _ _ _ _ (Nat.lt_succ_self n)];rfl
 |node x l r il ir =>
  intro n m v;rw[Si]
  by_cases hn:n=0
  ·subst hn;rw[ao rfl,cH,cH]
   by_cases hm:m=0<;>simp[hm]
  rw[ah hn]
  by_cases h2:(n - 1) % 2=0
  ·rw[ao h2,cH,cH]
   by_cases hm:m=0
   ·rw[ao hm,ao hm,ah (by omega)]
   rw[ah hm,ah hm]
   by_cases h3:(m - 1) % 2=0
   ·rw[ao h3,ao h3,il]
    by_cases e:m=n
    ·subst e;simp
    rw[ah e,ah (λ e'=>e (pj hm hn (by omega) e'))]
   rw[ah h3,ah h3,ah (λ e=>h3 (by subst e;exact h2))]
  rw[ah h2,cH,cH]
  by_cases hm:m=0
  ·rw[ao hm,ao hm,ah (by omega)]
  rw[ah hm,ah hm]
  by_cases h3:(m - 1) % 2=0
  ·rw[ao h3,ao h3,ah (λ e=>h2 (by subst e;exact h3))]
  rw[ah h3,ah h3,ir]
  by_cases e:m=n
  ·subst e;simp
  rw[ah e,ah (λ e'=>e (pj hm hn (by omega) e'))]
theorem AQ:∀(f n:Nat) (t:Tr α),n<f->(abT f n).f t=t.get n
 |0,n,t,h=>by omega
 |f + 1,n,t,h=>by
  show (Bool.rec (motive:=λ _=>Gt α) (Bool.rec (motive:=λ _=>Gt α) ⟨goR (abT f ((n - 1) / 2))⟩ ⟨goL (abT f ((n - 1) / 2))⟩ (Nat.beq ((n - 1) % 2) 0)) ⟨hd⟩ (Nat.beq n 0):Gt α).f t=_
  by_cases hn:n=0
  ·subst hn
   cases t with
   |nil=>rfl
   |node v l r=>rfl
  have h1:Nat.beq n 0=false:=by
   cases hb:Nat.beq n 0 with
   |false=>rfl
   |true=>exact ai (b9 hb) hn
  rw[h1];have hlt:(n - 1) / 2<f:=by omega
  by_cases h2:(n - 1) % 2=0
  ·rw[show Nat.beq ((n - 1) % 2) 0=true by rw[h2];rfl]
   cases t with
   |nil=>rfl
   |node v l r=>rw[cH,ah hn,ao h2];exact AQ f _ l hlt
  have h3:Nat.beq ((n - 1) % 2) 0=false:=by
   cases hb:Nat.beq ((n - 1) % 2) 0 with
   |false=>rfl
   |true=>exact ai (b9 hb) h2
  rw[h3]
  cases t with
  |nil=>rfl
  |node v l r=>rw[cH,ah hn,ah h2];exact AQ f _ r hlt
theorem jz:∀(f n:Nat) (v:Option α) (t:Tr α) (m:Nat),n<f->((vW f n).f v t).get m=if m=n then v else t.get m
 |0,n,v,t,m,h=>by omega
 |f + 1, n, v,t,m,h=>by
  show ((Bool.rec (motive:=λ _=>Pt α) (Bool.rec (motive:=λ _=>Pt α) ⟨pR (vW f ((n - 1) / 2))⟩ ⟨pL (vW f ((n - 1) / 2))⟩ (Nat.beq ((n - 1) % 2) 0)) ⟨phd⟩ (Nat.beq n 0):Pt α).f v t).get m=_
  by_cases hn:n=0
  ·subst hn
   cases t with
   |nil=>show (Tr.node v .nil .nil).get m=_;rw[cH];by_cases hm:m=0<;>simp[hm]
   |node x l r=>show (Tr.node v l r).get m=_;rw[cH,cH];by_cases hm:m=0<;>simp[hm]
  have h1 : Nat.beq n 0=false:=by
   cases hb:Nat.beq n 0 with
   |false=>rfl
   |true=>exact ai (b9 hb) hn
  rw[h1];have hlt:(n - 1) / 2<f:=by omega
  by_cases h2:(n - 1) % 2=0
  ·rw[show Nat.beq ((n - 1) % 2) 0=true by rw[h2];rfl]
   have key:∀(x:Option α) (l r:Tr α),(Tr.node x ((vW f ((n - 1) / 2)).f v l) r).get m=if m=n then v else (Tr.node x l r).get m:=by
    intro x l r;rw[cH,cH]
    by_cases hm:m=0
    ·rw[ao hm,ao hm,ah (by omega)]
    rw[ah hm,ah hm]
    by_cases h3:(m - 1) % 2=0
    ·rw[ao h3,ao h3,jz f _ _ _ _ hlt]
     by_cases e:m=n
     ·subst e;simp
     rw[ah e,ah (λ e'=>e (pj hm hn (by omega) e'))]
    rw[ah h3,ah h3,ah (λ e=>h3 (by subst e;exact h2))]
   cases t with
   |nil =>
    refine(key none .nil .nil).trans ?_;rw[cH]
    by_cases e:m=n
    ·simp[e]
    rw[ah e,ah e];by_cases hm:m=0<;>simp[hm]
   |node x l r=>exact key x l r
  have h3':Nat.beq ((n - 1) % 2) 0=false:=by
   cases hb:Nat.beq ((n - 1) % 2) 0 with
   |false=>rfl
   |true=>exact ai (b9 hb) h2
  rw[h3']
  have key:∀(x:Option α) (l r:Tr α),(Tr.node x l ((vW f ((n - 1) / 2)).f v r)).get m=if m=n then v else (Tr.node x l r).get m:=by
   intro x l r;rw[cH,cH]
   by_cases hm:m=0
   ·rw[ao hm,ao hm,ah (by omega)]
   rw[ah hm,ah hm]
   by_cases h3:(m - 1) % 2=0
   ·rw[ao h3,ao h3,ah (λ e=>h2 (by subst e;exact h3))]
   rw[ah h3,ah h3,jz f _ _ _ _ hlt]
   by_cases e:m=n
   ·subst e;simp
   rw[ah e,ah (λ e'=>e (pj hm hn (by omega) e'))]
  cases t with
  |nil =>
   refine(key none .nil .nil).trans ?_;rw[cH]
   by_cases e:m=n
   ·simp[e]
   rw[ah e,ah e];by_cases hm:m=0<;>simp[hm]
  |node x l r=>exact key x l r
theorem bw (vs:List α):∀(i:Nat) (t:Tr α) (m:Nat),(bD vs i t).get m=if i<=m/\m<i+vs.length then vs[m - i]? else t.get m:=by
 induction vs with
 |nil=>intro i t m;show t.get m=_;rw[ah (by simp)]
 |cons v r ih =>
  intro i t m;show (bD r (i+1) (t.put i (some v))).get m=_;rw[ih,get_put]
  by_cases h1:m=i
  ·subst h1;rw[ah (by omega),ao rfl,ao (by simp)];simp
  by_cases h2:i+1<=m/\m<i+1+r.length
  ·rw[ao h2,ao (by simp;omega)];obtain⟨j,rfl⟩:∃j,m=i+1+j:=⟨m - (i+1),by omega⟩;rw[show i+1+j - i=j+1 from by omega,show i+1+j - (i+1)=j from by omega];simp
  rw[ah h2,ah h1,ah (by simp;omega)]
end Tr
theorem mA {α:Type}(l:List α):∀i,nth l i=l[i]?:=by
 induction l with
 |nil=>intro i;rfl
 |cons a r ih=>intro i;cases i with
  |zero=>rfl
  |succ i=>exact(ih i).trans (by simp)
theorem PM {α:Type}(l:List α):∀n,dF l n=n+l.length:=by
 induction l with
 |nil=>intro n;rfl
 |cons a r ih =>
  intro n;show fY (n+1) (dF r)=_;rw[cJ,ih];simp;omega
theorem bI {α:Type}(l:List α):dF l 0=l.length:=by rw[PM];simp
section
variable {α:Type}
theorem afQ (e:List α):tlO e=e.tail:=by cases e<;>rfl
theorem oc:∀(n:Nat)(l:List α),Ft n l=l.drop n
 |0,l=>rfl
 |n+1,l=>by
  cases l with
  |nil=>show ([]:List α)=_;simp
  |cons a r=>show Ft n r=_;rw[oc n];rfl
theorem vw:∀(n:Nat)(l:List α),yF n l=l.take n
 |0,l=>by cases l<;>rfl
 |n+1,[]=>rfl
 |n+1,a::l=>by
  show a::yF n l=_;rw[vw n];rfl
theorem Lc:∀(l:List α)(n:Nat),ky l n=n+l.length
 |[],n=>rfl
 |a::l,n=>by
  show ky l (Nat.succ n)=_;rw[Lc l];simp;omega
theorem iZ (l:List α):ky l 0=l.length:=by rw[Lc];simp
theorem abc (l:List α):∀i,agG l i=l[i]?:=by
 induction l with
 |nil=>intro i;rfl
 |cons a r ih=>intro i;cases i with
  |zero=>rfl
  |succ i=>exact(ih i).trans (by simp)
theorem wK (vs:List α):∀(i:Nat)(t:Tr α)(m:Nat),(Bm vs i t).get m=if i<=m/\m<i+vs.length then none else t.get m:=by
 induction vs with
 |nil=>intro i t m;show t.get m=_;rw[ah (by simp)]
 |cons v r ih =>
  intro i t m;show (Bm r (i+1) (t.put i none)).get m=_;rw[ih,Tr.get_put]
  by_cases h1:m=i
  ·subst h1;rw[ah (by omega),ao rfl,ao (by simp)]
  by_cases h2:i+1<=m/\m<i+1+r.length
  ·rw[ao h2,ao (by simp;omega)]
  rw[ah h2,ah h1,ah (by simp;omega)]
theorem EU (vs:List α)(i:Nat)(t:Tr α)(m:Nat):(UH vs i t).get m=if i<=m/\m<i+vs.length then none else t.get m:=by
 cases t with
 |nil=>show (Tr.nil:Tr α).get m=_;simp
 |node v l r=>exact wK vs i _ m
namespace Ov
@[simp] theorem get_nil (n:Nat):(Ov.nil:Ov α).get n=none:=rfl
theorem jM (s:Nat)(c:Tr (List α))(o:Tr α)(n:Nat):(Ov.ch s c o).get n=match o.get n with
  |some v=>some v
  |none=>match c.get (n / s)with
   |some l=>l[n % s]?
   |none=>none:=by
 show (match o.get n with
  |some v=>some v
  |none=>match c.get (n / s)with
   |some l=>agG l (n % s)
   |none=>none)=_
 cases o.get n with
 |some v=>rfl
 |none =>
  dsimp only
  cases c.get (n / s)with
  |none=>rfl
  |some l=>exact abc l _
theorem ES (t:Tr α)(n:Nat):(agF t).get n=t.get n:=by cases t<;>rfl
theorem pA {vs:List α}{i:Nat}{c:Tr (List α)}{o o':Tr α}{d:Option α}(m:Nat)(h1:0<vs.length)(h2:i % vs.length=0)(ho:∀m,o'.get m=if i<=m/\m<i+vs.length then none else o.get m)
  (hd:¬(i<=m/\m<i+vs.length)->(Ov.ch vs.length c o).get m=d):(Ov.ch vs.length (c.put (i / vs.length) (some vs)) o').get m=if i<=m/\m<i+vs.length then vs[m - i]? else d:=by
 have hdiv:vs.length*(i / vs.length)+i % vs.length=i:=Nat.div_add_mod i vs.length;rw[jM,ho,Tr.get_put]
 by_cases h:i<=m/\m<i+vs.length
 ·rw[ao h,ao h]
  have hq:m / vs.length=i / vs.length:=by
   apply Nat.div_eq_of_lt_le
   ·rw[Nat.mul_comm];omega
   rw[Nat.succ_mul,Nat.mul_comm];omega
  rw[ao hq];dsimp only
  have hm:m % vs.length=m - i:=by
   have:=Nat.div_add_mod m vs.length;rw[hq]at this;omega
  rw[hm]
 rw[ah h,ah h]
 have hq:m / vs.length≠i / vs.length:=by
  intro e;have:=Nat.div_add_mod m vs.length;rw[e]at this;have:=Nat.mod_lt m h1;omega
 rw[ah hq,<-hd h,jM]
theorem sG {s:Nat}(hs:0<s)(m:Nat):∀(f:Nat)(vs:List α)(i:Nat)(c:Tr (List α))(o:Tr α),f*s<=vs.length->i % s=0->(KF s f vs i c o).get m=if i<=m/\m<i+vs.length then vs[m - i]? else (Ov.ch s c o).get m
 |0,vs,i,c,o,_,_=>by
  show (Ov.ch s c (Tr.bD vs i o)).get m=_;rw[jM,jM,Tr.bw]
  by_cases h:i<=m/\m<i+vs.length
  ·rw[ao h,ao h,cE (by omega)]
  rw[ah h,ah h]
 |f + 1,vs,i,c,o,hl,hi=>by
  have hl':f*s+s<=vs.length:=by rw[<-Nat.succ_mul];exact hl
  have ht:(yF s vs).length=s:=by rw[vw,length_take];omega
  show (KF s f (Ft s vs) (i+s) (c.put (i / s) (some (yF s vs))) (UH (yF s vs) i o)).get m=_;rw[sG hs m f _ _ _ _ (by rw[oc,length_drop];omega) (by rw[Nat.add_mod_right];exact hi)];have hp:=pA (vs:=yF s vs) (i:=i) (c:=c) (o:=o) (o':=UH (yF s vs) i o) (d:=(Ov.ch s c o).get m) m (by rw[ht];exact hs) (by rw[ht];exact hi) (EU (yF s vs) i o) (λ _=>by rw[ht]);rw[ht]at hp;rw[hp,oc,length_drop]
  by_cases h1:i+s<=m/\m<i+s+(vs.length - s)
  ·rw[ao h1,ao (by omega),iV];congr 1;omega
  rw[ah h1]
  by_cases h2:i<=m/\m<i+s
  ·rw[ao h2,ao (by omega),vw,getElem?_take];rw[ao (by omega)]
  rw[ah h2,ah (by omega)]
theorem bw (vs:List α) (i:Nat) (t:Ov α) (m:Nat):(bD vs i t).get m=if i<=m/\m<i+vs.length then vs[m - i]? else t.get m:=by
 unfold bD
 cases t with
 |nil =>
  dsimp only
  split
  ·rename_i hc;simp only[dN]at hc;rw[iZ]at hc ⊢
   split
   ·rename_i hc2;simp only[dN]at hc2;refine(sG (by omega) m (vs.length / 512) vs i .nil .nil (Nat.div_mul_le_self _ _) (b9 hc2.2)).trans ?_;rw[jM];simp
   exact pA m (by have:=dE hc.1;omega) (b9 hc.2) (o:=.nil) (λ m=>by simp) (λ _=>by rw[jM];simp)
  rw[ES,Tr.bw];congr 1
 |tr v l r =>
  dsimp only
  split
  ·rename_i hc;simp only[dN]at hc;rw[iZ]at hc ⊢;refine pA m (by have:=dE hc.1;omega) (b9 hc.2) (o:=.node v l r) (wK vs i _) (λ _=>?_);rw[jM];show _=(Tr.node v l r).get m
   cases (Tr.node v l r).get m<;>simp
  rw[ES,Tr.bw];rfl
 |ch s c o =>
  dsimp only
  split
  ·rename_i hc;simp only[dN]at hc;rw[iZ]at hc;obtain⟨⟨h1,h2⟩,h3⟩:=hc;have h1:=b9 h1;have h2:=dE h2;have h3:=b9 h3;subst h1;exact pA m (by omega) h3 (EU vs i o) (λ _=>rfl)
  split
  ·rename_i hc;simp only[dN]at hc;rw[iZ]at hc ⊢;obtain⟨⟨h1,h2⟩,h3⟩:=hc;exact sG (dE h2) m _ vs i c o (Nat.div_mul_le_self _ _) (b9 h3)
  rw[jM,jM,Tr.bw]
  by_cases h:i<=m/\m<i+vs.length
  ·rw[ao h,ao h,cE (by omega)]
  rw[ah h,ah h]
theorem vX (i:Nat) (t:Ov α):bD [] i t=t:=by
 cases t with
 |nil=>rfl
 |tr v l r=>rfl
 |ch s c o =>
  unfold bD;dsimp only
  split
  ·rename_i hc;simp only[dN]at hc;have h1:0=s:=b9 hc.1.1;have h2:=dE hc.1.2;omega
  split
  ·rename_i hc;simp only[dN]at hc;have h1:s<=0:=dE hc.1.1;have h2:=dE hc.1.2;omega
  rfl
end Ov
end
theorem bY (u:Nat)(z bs:List AV)(t:Ov AV)(i:Nat):gz u z bs t i =
  if i<u then (match t.get i with|some v=>some v|none=>match bs[i]? with|some v=>some v|none=>dflt z i)else none:=by
 unfold gz
 by_cases h:i<u
 ·have hb:Nat.blt i u=true:=uv h;rw[hb,ao h,mA]
  cases t.get i<;>simp
  cases bs[i]?<;>simp
 have hb:Nat.blt i u=false:=by
  cases hh:Nat.blt i u with
  |false=>rfl
  |true=>exact ai (dE hh) (by omega)
 rw[hb,ah h];rfl
theorem pz {u z bs t i v}(h:gz u z bs t i=some v):i<u:=by
 rw[bY]at h
 by_cases h1:i<u
 ·exact h1
 rw[ah h1]at h;cases h
theorem qH (u:Nat) (z bs:List AV) (t:Ov AV) (o:Nat):∀(n:Nat) (acc l:List AV),tW u z bs t o n acc=some l ->
  ∃l0,l=l0++acc/\l0.length=n/\∀i,i<n->gz u z bs t (o+i)=l0[i]?
 |0,acc,l,h=>by
  injection h with h;exact⟨[],by simp[h],rfl,λ i hi=>by omega⟩
 |n + 1,acc,l,h=>by
  have h':kK (gz u z bs t (o+n)) none (λ v=>tW u z bs t o n (v::acc))=some l:=h
  cases hg:gz u z bs t (o+n)with
  |none=>rw[hg]at h';cases h'
  |some v =>
   rw[hg]at h';obtain⟨l0,h1,h2,h3⟩:=qH u z bs t o n (v::acc) l h';refine⟨l0++[v],by simp[h1],by simp[h2],λ i hi=>?_⟩
   by_cases e:i<n
   ·rw[getElem?_append_left (by omega)];exact h3 i e
   have:i=n:=by omega
   subst this;rw[getElem?_append_right (by omega)];simp[h2,hg]
theorem wQ {z bs:List AV}{x:AV}(h:wR z bs=some x):z=[x]/\bs=[]:=by
 unfold wR at h
 split at h
 ·split at h
  ·injection h with h;subst h;exact⟨rfl,rfl⟩
  cases h
 cases h
theorem vQ (a:AV):∀n,(rpA a n).length=n/\∀i,i<n->(rpA a n)[i]?=some a
 |0=>⟨rfl,λ i hi=>by omega⟩
 |n+1=>by
  obtain⟨h1,h2⟩:=vQ a n;have e:rpA a (n+1)=a::rpA a n:=rfl;rw[e];refine⟨by simp[h1],λ i hi=>?_⟩
  cases i with
  |zero=>rfl
  |succ i=>simpa using h2 i (by omega)
theorem qk (t : Tr AV) (fill:Option AV):∀(n i:Nat) (e l:List AV),yB t fill n i e=some l->l.length=n/\∀j,j<n->∃x,l[j]?=some x/\(t.get (i+j)=some x∨(t.get (i+j)=none/\(e[j]?=some x∨(e[j]?=none/\fill=some x))))
 |0,i,e,l,h=>by
  have h:some []=some l:=h;injection h with h;subst h;exact⟨rfl,λ i hi=>by omega⟩
 |n + 1, i, e,l,h=>by
  have h:kK (kK (t.get i) (kK (hdL e) fill some) some) none (λ v=>kK (yB t fill n (i+1) (tlO e)) none λ l=>some (v::l))=some l:=h
  cases hv:kK (t.get i) (kK (hdL e) fill some) some with
  |none=>rw[hv]at h;cases h
  |some v =>
   rw[hv]at h;have h:kK (yB t fill n (i+1) (tlO e)) none (λ l=>some (v::l))=some l:=h
   cases hs:yB t fill n (i+1) (tlO e)with
   |none=>rw[hs]at h;cases h
   |some l1 =>
    rw[hs]at h;have h:some (v::l1)=some l:=h;injection h with h;subst h;obtain⟨h1,h2⟩:=qk t fill n (i+1) (tlO e) l1 hs;refine⟨by simp[h1],λ j hj=>?_⟩
    cases j with
    |zero =>
     refine⟨v,rfl,?_⟩
     cases ht:t.get i with
     |some y=>rw[ht]at hv;exact .inl (by simpa[ht]using hv)
     |none =>
      rw[ht]at hv;have hv:kK (hdL e) fill some=some v:=hv;refine .inr ⟨by simp,?_⟩
      cases e with
      |nil=>exact .inr ⟨rfl,hv⟩
      |cons y e =>
       have hv:some y=some v:=hv;exact .inl (by simpa using hv)
    |succ j =>
     obtain⟨x,h3,h4⟩:=h2 j (by omega);rw[show i+1+j=i+(j+1) by omega]at h4;refine⟨x,by simpa using h3,?_⟩;rw[afQ]at h4;simpa using h4
theorem LX (b:List AV):∀a,acm a b=a++b
 |[]=>rfl
 |x::a=>by
  show x::acm a b=_;rw[LX b a];rfl
theorem qy {l:List AV}{r k:Nat}(h:Nat.beq (ky (yF k (Ft r l)) 0) k=true):(yF k (Ft r l)).length=k/\∀j,j<k->∃x,(yF k (Ft r l))[j]?=some x/\l[r+j]?=some x:=by
 have h:=b9 h;rw[iZ]at h;refine⟨h,λ j hj=>?_⟩;have e:=cE (l:=yF k (Ft r l)) (i:=j) (by omega)
 have e2:(yF k (Ft r l))[j]?=l[r+j]?:=by
  rw[vw,oc,getElem?_take,ao hj,iV]
 exact⟨_,e,by rw[<-e2];exact e⟩
theorem wJ (fill:Option AV) (base:List AV) (s:Nat) (c:Tr (List AV)) (hs:0<s):∀(fuel o n:Nat) (l:List AV),ER fill base s c fuel o n=some l->l.length=n/\∀j,j<n->∃x,l[j]?=some x/\(GX fill base s c ((o+j) / s))[(o+j) % s]?=some x
 |0,o,n,l,h=>by cases h
 |f + 1,o,n,l,h=>by
  have hmod:o % s<s:=Nat.mod_lt _ hs;have e:=Nat.div_add_mod o s
  have loc:∀j,o % s+j<s->(o+j) / s=o / s/\(o+j) % s=o % s+j:=by
   intro j hj
   have hq:(o+j) / s=o / s:=by
    apply Nat.div_eq_of_lt_le
    ·rw[Nat.mul_comm];omega
    rw[Nat.succ_mul,Nat.mul_comm];omega
   refine⟨hq,?_⟩;have e2:=Nat.div_add_mod (o+j) s;rw[hq]at e2;omega
  replace h:(match Nat.ble n (s - o % s)with
   |true=>match yF n (Ft (o % s) (GX fill base s c (o / s)))with
    |l=>match Nat.beq (ky l 0) n with
     |true=>some l
     |false=>none
   |false=>match yF (s - o % s) (Ft (o % s) (GX fill base s c (o / s)))with
    |l => match Nat.beq (ky l 0) (s - o % s)with
     |true=>match ER fill base s c f (o+(s - o % s)) (n - (s - o % s))with
      |some r=>some (acm l r)
      |none=>none
     |false=>none)=some l:=h
  split at h
  ·rename_i hb;have hle:=dE hb;dsimp only at h
   split at h
   ·rename_i hc;injection h with h;subst h;obtain⟨h1,h2⟩:=qy hc;refine⟨h1,λ j hj=>?_⟩;obtain⟨x,h3,h4⟩:=h2 j hj;obtain⟨h5,h6⟩:=loc j (by omega);exact⟨x,h3,by rw[h5,h6];exact h4⟩
   cases h
  rename_i hb
  have hgt:s - o % s<n:=by
   cases Nat.lt_or_ge (s - o % s) n with
   |inl h=>exact h
   |inr h=>rw[uv h]at hb;cases hb
  dsimp only at h
  split at h
  ·rename_i hc
   split at h
   ·rename_i r hr;injection h with h;subst h;obtain⟨h1,h2⟩:=qy hc;obtain⟨i1,i2⟩:=wJ fill base s c hs f _ _ r hr;rw[LX];refine⟨by rw[length_append,h1,i1];omega,λ j hj=>?_⟩
    by_cases hlt:j<s - o % s
    ·rw[getElem?_append_left (by omega)];obtain⟨x,h3,h4⟩:=h2 j hlt;obtain⟨h5,h6⟩:=loc j (by omega);exact⟨x,h3,by rw[h5,h6];exact h4⟩
    rw[getElem?_append_right (by omega),h1];obtain⟨x,h3,h4⟩:=i2 (j - (s - o % s)) (by omega);rw[show o+(s - o % s)+(j - (s - o % s))=o+j by omega]at h4;exact⟨x,h3,h4⟩
   cases h
  cases h
theorem TT {u s:Nat}{z bs:List AV}{c:Tr (List AV)}{m:Nat}{x:AV}(hm:m<u)(hs:0<s)(h:(GX (wR z bs) bs s c (m / s))[m % s]?=some x):gz u z bs (.ch s c .nil) m=some x:=by
 rw[bY,ao hm,Ov.jM];simp only[Tr.get_nil];unfold GX at h
 split at h
 ·rename_i l hl;rw[hl];dsimp only;rw[h]
 rename_i hl;rw[hl];dsimp only
 split at h
 ·rename_i y hy;obtain⟨e1,e2⟩:=wQ hy;rw[(vQ y s).2 _ (Nat.mod_lt _ hs)]at h;injection h with h;subst h;rw[e1,e2];rfl
 rw[oc,iV]at h;have e:=Nat.div_add_mod m s;have h:bs[m / s*s+m % s]?=some x:=h;rw[Nat.mul_comm,e]at h;rw[h]
theorem Ed {n r:Nat}{e l:List AV}(h:vY n r e=some l):l.length=n/\∀j,j<n->∃x,l[j]?=some x/\e[r+j]?=some x:=by
 unfold vY at h;dsimp only at h
 split at h
 ·rename_i hc;injection h with h;subst h;exact qy hc
 cases h
theorem jb {u z bs t o n l}(hinv:t=.nil->z=[]->bs.length=u) (h:fX u z bs t o n=some l):
  l.length=n/\∀i,i<n->gz u z bs t (o+i)=l[i]?:=by
 have key:∀t,tW u z bs t o n []=some l->l.length=n/\∀i,i<n->gz u z bs t (o+i)=l[i]?:=by
  intro t h;obtain⟨l0,h1,h2,h3⟩:=qH u z bs t o n [] l h;simp at h1;subst h1;exact⟨h2,h3⟩
 have orr:∀(r:Option (List AV)) (z bs:List AV) (t:Ov AV),(∀l,r=some l->l.length=n/\∀i,i<n->gz u z bs t (o+i)=l[i]?)->orR r u z bs t o n=some l->l.length=n/\∀i,i<n->gz u z bs t (o+i)=l[i]?:=by
  intro r z bs t hr h;unfold orR at h
  split at h
  ·rename_i l1;injection h with h;subst h;exact hr _ rfl
  obtain⟨l0,h1,h2,h3⟩:=qH u z bs t o n [] l h;simp at h1;subst h1;exact⟨h2,h3⟩
 unfold fX at h
 split at h
 ·split at h
  ·split at h
   ·rename_i hb;simp at hb;injection h with h;subst h;have hl:=hinv rfl rfl;obtain⟨rfl,rfl⟩:=hb;refine⟨hl,λ i hi=>?_⟩;rw[bY,ao (by omega)];simp;rw[cE (by omega)]
   split at h
   ·rename_i hle;have hle:o+n<=u:=dE hle;refine orr _ _ _ _ (λ l1 hl1=>?_) h;obtain⟨h1,h2⟩:=Ed hl1;refine⟨h1,λ i hi=>?_⟩;obtain⟨x,h3,h4⟩:=h2 i hi;rw[h3,bY,ao (by omega),Ov.get_nil];dsimp only;rw[h4]
   cases h
  split at h
  ·rename_i x hx
   split at h
   ·rename_i hle;have hle:o+n<=u:=dE hle;injection h with h;subst h;obtain⟨e1,e2⟩:=wQ hx;rw[e1,e2];obtain⟨h1,h2⟩:=vQ x n;refine⟨h1,λ i hi=>?_⟩;rw[h2 i hi,bY,ao (by omega)];rfl
   cases h
  exact key _ h
 ·rename_i x lt rt
  split at h
  ·rename_i hle;have hle:o+n<=u:=dE hle;refine orr _ _ _ _ (λ l1 hl1=>?_) h;obtain⟨h1,h2⟩:=qk _ _ _ _ _ _ hl1;refine⟨h1,λ i hi=>?_⟩;obtain⟨y,h3,h4⟩:=h2 i hi;rw[h3,bY,ao (by omega)]
   show (match (Tr.node x lt rt).get (o+i)with
    |some v=>some v
    |none=>match bs[o+i]? with
     |some v=>some v
     |none=>dflt z (o+i))=some y
   rw[oc,iV]at h4
   rcases h4 with h4|⟨h4,h5|⟨h5,h6⟩⟩
   ·rw[h4]
   ·rw[h4,h5]
   rw[h4,h5];dsimp only;unfold adl at h6
   split at h6
   ·injection h6 with h6;subst h6;rfl
   cases h6
  cases h
 rename_i s c p
 split at h
 ·rename_i hle;have hle:o+n<=u:=dE hle
  split at h
  ·rename_i hs;have hs:0<s:=dE hs;have e:=Nat.div_add_mod o s
   have loc:∀j,o % s+j<s->(o+j) / s=o / s/\(o+j) % s=o % s+j:=by
    intro j hj
    have hq:(o+j) / s=o / s:=by
     apply Nat.div_eq_of_lt_le
     ·rw[Nat.mul_comm];omega
     rw[Nat.succ_mul,Nat.mul_comm];omega
    refine⟨hq,?_⟩;have e2:=Nat.div_add_mod (o+j) s;rw[hq]at e2;omega
   have mk:∀l1,ER (wR z bs) bs s c (Nat.add (Nat.div n s) 2) o n=some l1->l1.length=n/\∀i,i<n->gz u z bs (.ch s c .nil) (o+i)=l1[i]?:=by
    intro l1 hg;obtain⟨h1,h2⟩:=wJ _ _ _ _ hs _ _ _ _ hg;refine⟨h1,λ i hi=>?_⟩;obtain⟨x,h3,h4⟩:=h2 i hi;rw[h3];exact TT (by omega) hs h4
   split at h
   ·refine orr _ _ _ _ (λ l1 hl1=>?_) h
    split at hl1
    ·rename_i hc;simp only[dN]at hc;have c1:o % s=0:=b9 hc.1;have c2:n=s:=b9 hc.2
     split at hl1
     ·rename_i l0 hl0;have hl0:c.get (o / s)=some l0:=hl0
      split at hl1
      ·rename_i hc3;have c3:=b9 hc3;rw[iZ]at c3;injection hl1 with hl1;subst hl1;refine⟨c3,λ i hi=>?_⟩;obtain⟨h3,h4⟩:=loc i (by omega);rw[bY,ao (by omega),Ov.jM,h3,h4,hl0,c1,qw];simp only[Tr.get_nil];rw[cE (by omega)]
      cases hl1
     exact mk _ hl1
    exact mk _ hl1
   rename_i v lt rt;refine orr _ _ _ _ (λ l1 hl1=>?_) h
   split at hl1
   ·rename_i hc;have hc:o % s+n<=s:=dE hc
    split at hl1
    ·rename_i e0 he0;have he0:c.get (o / s)=some e0:=he0;obtain⟨h1,h2⟩:=qk _ _ _ _ _ _ hl1;refine⟨h1,λ i hi=>?_⟩;obtain⟨y,h3,h4⟩:=h2 i hi;obtain⟨h5,h6⟩:=loc i (by omega);rw[h3,bY,ao (by omega),Ov.jM,h5,h6,he0];rw[oc,iV]at h4;have h4:(Tr.node v lt rt).get (o+i)=some y∨((Tr.node v lt rt).get (o+i)=none/\(e0[o % s+i]?=some y∨(e0[o % s+i]?=none/\(none:Option AV)=some y))):=h4
     rcases h4 with h4|⟨h4,h5|⟨_,h6⟩⟩
     ·rw[h4]
     ·rw[h4];dsimp only;rw[h5]
     cases h6
    cases hl1
   cases hl1
  exact key _ h
 cases h
end Go.Abs
