/- A part. -/
import Derived.Calls
import Derived.LoopN
import Derived.OrdersIn
noncomputable section
namespace Go.Abs
open List
inductive Tr (α:Type) where
 | nil
 | node (v:Option α) (l r:Tr α)
namespace Tr
variable {α:Type}
def get (t:Tr α):Nat->Option α:=
 Tr.rec (motive:=λ _=>Nat->Option α) (λ _=>none) (λ v _ _ gl gr n =>
  Bool.rec (motive:=λ _=>Option α) (Bool.rec (motive:=λ _=>Option α) (gr (Nat.div (Nat.sub n 1) 2)) (gl (Nat.div (Nat.sub n 1) 2)) (Nat.beq (Nat.mod (Nat.sub n 1) 2) 0)) v (Nat.beq n 0)) t
def single (f:Nat):Nat->Option α->Tr α:=
 Nat.rec (motive:=λ _=>Nat->Option α->Tr α) (λ _ _=>.nil) (λ _ ih n v =>
  Bool.rec (motive:=λ _=>Tr α) (Bool.rec (motive:=λ _=>Tr α) (.node none .nil (ih (Nat.div (Nat.sub n 1) 2) v)) (.node none (ih (Nat.div (Nat.sub n 1) 2) v) .nil) (Nat.beq (Nat.mod (Nat.sub n 1) 2) 0)) (.node v .nil .nil) (Nat.beq n 0)) f
def put (t:Tr α):Nat->Option α->Tr α:=
 Tr.rec (motive:=λ _=>Nat->Option α->Tr α) (λ n v=>single (Nat.succ n) n v) (λ x l r pl pr n v =>
  Bool.rec (motive:=λ _=>Tr α) (Bool.rec (motive:=λ _=>Tr α) (.node x l (pr (Nat.div (Nat.sub n 1) 2) v)) (.node x (pl (Nat.div (Nat.sub n 1) 2) v) r) (Nat.beq (Nat.mod (Nat.sub n 1) 2) 0)) (.node v l r) (Nat.beq n 0)) t
structure Gt (α:Type) where
 f:Tr α->Option α
structure Pt (α:Type) where
 f:Option α->Tr α->Tr α
def hd (t:Tr α):Option α:=Tr.rec (motive:=λ _=>Option α) none (λ v _ _ _ _=>v) t
def goL (k:Gt α)(t:Tr α):Option α:=Tr.rec (motive:=λ _=>Option α) none (λ _ l _ _ _=>k.f l) t
def goR (k:Gt α)(t:Tr α):Option α:=Tr.rec (motive:=λ _=>Option α) none (λ _ _ r _ _=>k.f r) t
def abd (f:Nat):Nat->Gt α:=
 Nat.rec (motive:=λ _=>Nat->Gt α) (λ _=>⟨λ _=>none⟩) (λ _ ih n =>
  Bool.rec (motive:=λ _=>Gt α) (Bool.rec (motive:=λ _=>Gt α) ⟨goR (ih (Nat.div (Nat.sub n 1) 2))⟩ ⟨goL (ih (Nat.div (Nat.sub n 1) 2))⟩ (Nat.beq (Nat.mod (Nat.sub n 1) 2) 0)) ⟨hd⟩ (Nat.beq n 0)) f
def phd (v:Option α)(t:Tr α):Tr α:=Tr.rec (motive:=λ _=>Tr α) (.node v .nil .nil) (λ _ l r _ _=>.node v l r) t
def pL (k:Pt α)(v:Option α)(t:Tr α):Tr α:=Tr.rec (motive:=λ _=>Tr α) (.node none (k.f v .nil) .nil) (λ x l r _ _=>.node x (k.f v l) r) t
def pR (k:Pt α)(v:Option α)(t:Tr α):Tr α:=Tr.rec (motive:=λ _=>Tr α) (.node none .nil (k.f v .nil)) (λ x l r _ _=>.node x l (k.f v r)) t
def uZ (f:Nat):Nat->Pt α:=
 Nat.rec (motive:=λ _=>Nat->Pt α) (λ _=>⟨λ _ t=>t⟩) (λ _ ih n =>
  Bool.rec (motive:=λ _=>Pt α) (Bool.rec (motive:=λ _=>Pt α) ⟨pR (ih (Nat.div (Nat.sub n 1) 2))⟩ ⟨pL (ih (Nat.div (Nat.sub n 1) 2))⟩ (Nat.beq (Nat.mod (Nat.sub n 1) 2) 0)) ⟨phd⟩ (Nat.beq n 0)) f
def bO (vs:List α):Nat->Tr α->Tr α:=
 List.rec (motive:=λ _=>Nat->Tr α->Tr α) (λ _ t=>t) (λ v _ ih i t=>ih (Nat.succ i) (t.put i (some v))) vs
end Tr
inductive Ov (α:Type) where
 | nil
 | tr (v:Option α) (l r:Tr α)
 | ch (s:Nat) (c:Tr (List α)) (o:Tr α)
section
variable {α:Type}
def tlO (e:List α):List α:=List.rec (motive:=λ _=>List α) [] (λ _ t _=>t) e
def Ej (n:Nat):List α->List α:=Nat.rec (motive:=λ _=>List α->List α) (λ l=>l) (λ _ ih l=>List.rec (motive:=λ _=>List α) [] (λ _ t _=>ih t) l) n
def yp (n:Nat):List α->List α:=Nat.rec (motive:=λ _=>List α->List α) (λ _=>[]) (λ _ ih l=>List.rec (motive:=λ _=>List α) [] (λ a t _=>a::ih t) l) n
def aiX (l:List α):Nat->Option α:=
 List.rec (motive:=λ _=>Nat->Option α) (λ _=>none) (λ a _ ih i=>Nat.rec (motive:=λ _=>Option α) (some a) (λ j _=>ih j) i) l
def jL (l:List α):Nat->Nat:=List.rec (motive:=λ _=>Nat->Nat) (λ n=>n) (λ _ _ ih n=>Nat.rec (motive:=λ _=>Nat) (ih (Nat.succ n)) (λ _ _=>ih (Nat.succ n)) (Nat.succ n)) l
def Bf (vs:List α):Nat->Tr α->Tr α:=
 List.rec (motive:=λ _=>Nat->Tr α->Tr α) (λ _ t=>t) (λ _ _ ih i t=>ih (Nat.succ i) (t.put i none)) vs
def Sc (vs:List α)(i:Nat)(t:Tr α):Tr α:=match t with
 | .nil=>.nil
 | .node v l r=>Bf vs i (.node v l r)
end
namespace Ov
variable {α:Type}
def aiV:Tr α->Ov α
 | .nil=>.nil
 | .node v l r=>.tr v l r
def get:Ov α->Nat->Option α
 | .nil,_=>none
 | .tr v l r,n=>(Tr.node v l r).get n
 | .ch s c o,n=>match o.get n with
  | some v=>some v
  | none=>match c.get (Nat.div n s)with
   | some l=>aiX l (Nat.mod n s)
   | none=>none
def JD (s:Nat) (f:Nat):List α->Nat->Tr (List α)->Tr α->Ov α:=
 Nat.rec (motive:=λ _=>List α->Nat->Tr (List α)->Tr α->Ov α) (λ vs i c o=>.ch s c (Tr.bO vs i o))
  (λ _ ih vs i c o=>ih (Ej s vs) (Nat.add i s) (c.put (Nat.div i s) (some (yp s vs))) (Sc (yp s vs) i o)) f
def bO (vs:List α) (i:Nat) (t:Ov α):Ov α:=match t with
 | .nil=>match Nat.ble 48 (jL vs 0)&&Nat.beq (Nat.mod i (jL vs 0)) 0 with
  | true=>match Nat.ble 1024 (jL vs 0)&&Nat.beq (Nat.mod i 512) 0 with
   | true=>JD 512 (Nat.div (jL vs 0) 512) vs i .nil .nil
   | false=>.ch (jL vs 0) (Tr.put .nil (Nat.div i (jL vs 0)) (some vs)) .nil
  | false=>aiV (Tr.bO vs i .nil)
 | .tr v l r=>match Nat.ble 48 (jL vs 0)&&Nat.beq (Nat.mod i (jL vs 0)) 0 with
  | true=>.ch (jL vs 0) (Tr.put .nil (Nat.div i (jL vs 0)) (some vs)) (Bf vs i (.node v l r))
  | false=>aiV (Tr.bO vs i (.node v l r))
 | .ch s c o=>match Nat.beq (jL vs 0) s&&Nat.ble 1 s&&Nat.beq (Nat.mod i s) 0 with
  | true=>.ch s (c.put (Nat.div i s) (some vs)) (Sc vs i o)
  | false=>match Nat.ble s (jL vs 0)&&Nat.ble 1 s&&Nat.beq (Nat.mod i s) 0 with
   | true=>JD s (Nat.div (jL vs 0) s) vs i c o
   | false=>.ch s c (Tr.bO vs i o)
end Ov
inductive AV where
 | int (k:IntKind) (n:Int)
 | bool (b:Bool)
 | str (l:List Nat)
 | ptr (b o:Nat)
 | sl (b o len sz:Nat)
 | agg (cs:List AV) (n:Nat)
 | bg (vs:List AV)
 | kV (t:TypeId) (v:AV)
 | fn (f:Fn) (first cap:List AV)
 | map (b:Nat)
 | ds (cs:List AV) (len sz:Nat)
 | dp (cs:List AV)
 | je (b:Nat)
 | ak (v:Value)
def atom:Value->Bool
 | .pointer none | .slice none 0 0 | .nilIface | .nilFunc | .map none=>true
 | _=>false
def AV.one:AV->Bool
 | .agg _ _ | .bg _=>false
 | _=>true
def AV.cells:AV->List AV
 | .agg cs _=>cs
 | v=>[v]
def AV.len:AV->Nat
 | .agg _ n=>n
 | _=>1
inductive mF where
 | normal | exit (id:Nat) | ret | panic (v:AV)
inductive Dm where
 | cu (b:Nat)
 | fn (f:FuncId) (args:List AV)
inductive UM where
 | ret
 | pE (v:AV) (recovered:Bool)
inductive bI where
 | cells (used:Nat) (z base:List AV) (t:Ov AV)
 | map (es:List (AV×AV×Nat)) (clock:Nat)
 | loop (st:LoopState) (jump:mF) (nt:Nat) (F:Tr AV) (ps:List Nat) (a b:Code)
 | kX
 | iter (m:Option Nat) (since:Nat) (seen:List Nat) (last:Nat)
abbrev Fr:=Tr AV
abbrev Hp:=Tr bI
structure G where
 f:Fr->Option AV
inductive bP where
 | fail
 | val (v:AV)
 | new (v:AV) (k:bI)
 | upd (v:AV) (b:Nat) (k:bI)
 | mv (v:AV) (b:Nat) (k:bI)
abbrev Eff:=Fr->Hp->Nat->bP
inductive Kv where
 | fail
 | mk (o:mF) (F:Fr) (H:Hp) (n:Nat) (m:List Dm)
inductive iq where
 | fail
 | mk (v:AV) (H:Hp) (n:Nat)
 | pE (v:AV) (H:Hp) (n:Nat)
inductive OQ where
 | fail
 | mk (u:UM) (H:Hp) (n:Nat)
structure Ce where
 call:FuncId->List AV->Hp->Nat->iq
 code:Nat->Code->Fr->Hp->Nat->Kv
 dcall:FuncId->List AV->UM->Hp->Nat->OQ
structure K where
 f:Ce->Fr->Hp->Nat->List Dm->Kv
def iL {α:Type}(n:Nat)(k:Nat->α):α:=Nat.rec (motive:=λ _=>α) (k 0) (λ m _=>k (Nat.succ m)) n
def Ru {α:Type}(i:Int)(k:Int->α):α:=Int.rec (motive:=λ _=>α) (λ m=>iL m λ m=>k (.ofNat m)) (λ m=>iL m λ m=>k (.negSucc m)) i
def akq {α:Type}(c:Bool)(a b:α):α:=Bool.rec (motive:=λ _=>α) b a c
def jK {α β:Type}(o:Option α)(d:β)(k:α->β):β:=Option.rec (motive:=λ _=>β) d k o
def dflt (z:List AV)(i:Nat):Option AV:=
 List.rec (motive:=λ _=>Option AV) none (λ a r _=>List.rec (motive:=λ _=>Option AV) (some a) (λ _ _ _=>z[i % z.length]?) r) z
def nth {α:Type}(l:List α):Nat->Option α:=
 List.rec (motive:=λ _=>Nat->Option α) (λ _=>none) (λ a _ ih i=>Nat.rec (motive:=λ _=>Option α) (some a) (λ j _=>ih j) i) l
def fY (used:Nat)(z base:List AV)(t:Ov AV)(i:Nat):Option AV:=
 akq (Nat.blt i used) (jK (t.get i) (jK (nth base i) (dflt z i) some) some) none
def oV (used:Nat)(z base:List AV)(t:Ov AV)(o:Nat)(n:Nat):List AV->Option (List AV):=
 Nat.rec (motive:=λ _=>List AV->Option (List AV)) some (λ m ih acc=>jK (fY used z base t (Nat.add o m)) none (λ v=>ih (v::acc))) n
def rpA (a:AV)(n:Nat):List AV:=Nat.rec (motive:=λ _=>List AV) [] (λ _ ih=>a::ih) n
def vO (z base:List AV):Option AV:=match base with
 | []=>match z with
  | [a]=>some a
  | _=>none
 | _::_=>none
def hdL (e:List AV):Option AV:=List.rec (motive:=λ _=>Option AV) none (λ a _ _=>some a) e
def acP (z:List AV):Option AV:=match z with
 | [a]=>some a
 | _=>none
def yj (t:Tr AV)(fill:Option AV)(n:Nat):Nat->List AV->Option (List AV):=
 Nat.rec (motive:=λ _=>Nat->List AV->Option (List AV)) (λ _ _=>some []) (λ _ ih i e=>jK (jK (t.get i) (jK (hdL e) fill some) some) none λ v=>jK (ih (Nat.succ i) (tlO e)) none λ l=>some (v::l)) n
def Fl (fill:Option AV) (base:List AV) (s:Nat) (c:Tr (List AV)) (q:Nat):List AV:=match c.get q with
 | some l=>l
 | none=>match fill with
  | some x=>rpA x s
  | none=>Ej (Nat.mul q s) base
def abQ (a b:List AV):List AV:=List.rec (motive:=λ _=>List AV) b (λ x _ ih=>x::ih) a
def D4 (fill:Option AV) (base:List AV) (s:Nat) (c:Tr (List AV)) (fuel:Nat):Nat->Nat->Option (List AV):=
 Nat.rec (motive:=λ _=>Nat->Nat->Option (List AV)) (λ _ _=>none) (λ _ ih o n =>
  match Nat.ble n (Nat.sub s (Nat.mod o s))with
  | true=>match yp n (Ej (Nat.mod o s) (Fl fill base s c (Nat.div o s)))with
   | l=>match Nat.beq (jL l 0) n with
    | true=>some l
    | false=>none
  | false=>match yp (Nat.sub s (Nat.mod o s)) (Ej (Nat.mod o s) (Fl fill base s c (Nat.div o s)))with
   | l => match Nat.beq (jL l 0) (Nat.sub s (Nat.mod o s))with
    | true=>match ih (Nat.add o (Nat.sub s (Nat.mod o s))) (Nat.sub n (Nat.sub s (Nat.mod o s)))with
     | some r=>some (abQ l r)
     | none=>none
    | false=>none) fuel
def orR (r:Option (List AV))(used:Nat)(z base:List AV)(t:Ov AV)(o n:Nat):Option (List AV):=match r with
 | some l=>some l
 | none=>oV used z base t o n []
def u4 (n r:Nat) (e:List AV):Option (List AV):=match yp n (Ej r e)with
 | l=>match Nat.beq (jL l 0) n with
  | true=>some l
  | false=>none
def gJ (used:Nat) (z base:List AV) (t:Ov AV) (o n:Nat):Option (List AV):=
 match t with
 | .nil=>match z with
  | []=>match Nat.beq o 0&&Nat.beq n used with
   | true=>some base
   | false=>match Nat.ble (Nat.add o n) used with
    | true=>orR (u4 n o base) used [] base .nil o n
    | false=>none
  | a :: r=>match vO (a::r) base with
   | some x=>match Nat.ble (Nat.add o n) used with
    | true=>some (rpA x n)
    | false=>none
   | none=>oV used (a::r) base .nil o n []
 | .tr x l r=>match Nat.ble (Nat.add o n) used with
  | true=>orR (yj (.node x l r) (acP z) n o (Ej o base)) used z base (.tr x l r) o n
  | false=>none
 | .ch s c p => match Nat.ble (Nat.add o n) used with
  | true => match Nat.ble 1 s with
   | true=>match p with
    | .nil=>orR (match Nat.beq (Nat.mod o s) 0&&Nat.beq n s with
     | true=>match c.get (Nat.div o s)with
      | some l=>match Nat.beq (jL l 0) n with
       | true=>some l
       | false=>none
      | none=>D4 (vO z base) base s c (Nat.add (Nat.div n s) 2) o n
     | false=>D4 (vO z base) base s c (Nat.add (Nat.div n s) 2) o n) used z base (.ch s c .nil) o n
    | .node v l r=>orR (match Nat.ble (Nat.add (Nat.mod o s) n) s with
     | true=>match c.get (Nat.div o s)with
      | some e=>yj (.node v l r) none n o (Ej (Nat.mod o s) e)
      | none=>none
     | false=>none) used z base (.ch s c (.node v l r)) o n
   | false=>oV used z base (.ch s c p) o n []
  | false=>none
def patch:List AV->Nat->List AV->Option (List AV)
 | cs,_,[]=>some cs
 | [],_,_::_=>none
 | _::cs,0,v::vs=>(patch cs 0 vs).map (v::·)
 | c::cs,o+1,v::vs=>(patch cs o (v::vs)).map (c::·)
def js (F:Fr):List (Nat×Nat×G)->List AV->Option (List AV)
 | [],cs=>some cs
 | (o, s,x)::r,cs=>match x.f F with
  | some v=>match Nat.beq v.len s&&Nat.blt 0 s with
   | true=>match patch cs o v.cells with
    | some cs'=>js F r cs'
    | none=>none
   | false=>none
  | none=>none
def fM (F:Fr):List G->Option (List AV)
 | []=>some []
 | x :: r=>match x.f F with
  | some a=>match fM F r with
   | some l=>some (a::l)
   | none=>none
  | none=>none
def bm:List AV->Bool
 | []=>true
 | v::r=>v.one&&bm r
def rep (z:List AV):Nat->List AV
 | 0=>[]
 | n+1=>z++rep z n
def eP:List Nat->List Nat->Bool
 | [],[]=>true
 | a::x,b::y=>match Nat.beq a b with
  | true=>eP x y
  | false=>false
 | _,_=>false
def iV:List Nat->List Nat->Bool
 | _,[]=>false
 | [],_::_=>true
 | a::x,b::y=>Nat.blt a b||(Nat.beq a b&&iV x y)
def dW {α:Type}(l:List α):Nat->Nat:=List.rec (motive:=λ _=>Nat->Nat) (λ n=>n) (λ _ _ ih n=>iL (Nat.succ n) ih) l
def u8s (l:List Nat):List AV:=l.map λ n=>.int .u8 (Int.ofNat n)
inductive LK where
 | i | s | b
def e9:LK->AV->AV->Option Bool
 | .i,.int j a,.int k b=>if j=k then some (a == b)else none
 | .b,.bool a,.bool b=>some (a == b)
 | .s,.str a,.str b=>some (eP a b)
 | _,_,_=>none
def cg:List LK->List AV->List AV->Option Bool
 | [],[],[]=>some true
 | q::qs,a::x,b::y=>match e9 q a b with
  | some true=>cg qs x y
  | some false=>some false
  | none=>none
 | _,_,_=>none
inductive EqK where
 | num | bool | ptr | slice | map | func | iface | pN
def mq (q:EqK) (x y:AV):Option Bool:=
 match q,x,y with
 | .num,.int j a,.int k b=>if j=k then some (a == b)else none
 | .num,.str a,.str b=>some (eP a b)
 | .bool,.bool a,.bool b=>some (a == b)
 | .ptr,.ptr a o,.ptr b p=>match Nat.beq a b with
  | true=>some (Nat.beq o p)
  | false=>none
 | .ptr,.ptr _ _,.ak (.pointer none)=>some false
 | .ptr,.ak (.pointer none),.ptr _ _=>some false
 | .ptr,.ak (.pointer none),.ak (.pointer none)=>some true
 | .slice,.sl ..,.ak (.slice none _ _)=>some false
 | .slice,.ds _ (_+1) _,.ak (.slice none _ _)=>some false
 | .slice,.ds _ 0 0,.ak (.slice none _ _)=>some false
 | .slice,.ak (.slice none _ _),.sl ..=>some false
 | .slice,.ak (.slice none _ _),.ds _ (_+1) _=>some false
 | .slice,.ak (.slice none _ _),.ds _ 0 0=>some false
 | .slice,.ak (.slice none _ _),.ak (.slice none _ _)=>some true
 | .map,.map _,.ak (.map none)=>some false
 | .map,.ak (.map none),.map _=>some false
 | .map,.ak (.map none),.ak (.map none)=>some true
 | .func,.fn ..,.ak .nilFunc=>some false
 | .func,.ak .nilFunc,.fn ..=>some false
 | .func,.ak .nilFunc,.ak .nilFunc=>some true
 | .iface,.kV _ _,.ak .nilIface=>some false
 | .iface,.ak .nilIface,.kV _ _=>some false
 | .pN,.kV _ _,.ak .nilIface=>some false
 | .pN,.ak .nilIface,.kV _ _=>some false
 | .pN,.ak .nilIface,.ak .nilIface=>some true
 | _,_,_=>none
def nat?:AV->Option Nat
 | .int _ (.ofNat n)=>some n
 | _=>none
def Kl (d:Nat):Option AV->Option Nat
 | none=>some d
 | some v=>nat? v
def Bl (len:Nat) (lo hi mx:Option AV):Option (Nat×Nat):=
 match Kl len mx with
 | some m=>match Kl len hi with
  | some h=>match Kl 0 lo with
   | some l=>match Nat.ble l h&&Nat.ble h len&&Nat.ble h m&&Nat.ble m len with
    | true=>some (l,h)
    | false=>none
   | none=>none
  | none=>none
 | none=>none
def uk (F:Fr):Option G->Option (Option AV)
 | none=>some none
 | some x=>(x.f F).map some
def big:Nat:=1073741824
def bZ (H:Hp) (sz:Nat):AV->Option (List AV)
 | .sl b o len s=>bif Nat.beq s sz then (match H.get b with
  | some (.cells u z bs t)=>gJ u z bs t o (len*sz)
  | _=>none)else none
 | .ds cs len s=>bif Nat.beq s sz||Nat.beq len 0 then some cs else none
 | .ak (.slice none _ _)=>some []
 | .str l=>bif Nat.beq sz 1 then some (u8s l)else none
 | _=>none
def sliceLen:AV->Option Nat
 | .sl _ _ len _=>some len
 | .ds _ len _=>some len
 | .ak (.slice none _ _)=>some 0
 | .str l=>some (dW l 0)
 | _=>none
def findKey (q:LK) (k:AV):List (AV×AV×Nat)->Option (Option AV)
 | []=>some none
 | e::r=>match e9 q k e.1 with
  | some true=>some (some e.2.1)
  | some false=>findKey q k r
  | none=>none
def lx (q:LK) (k v:AV):List (AV×AV×Nat)->Option (Option (List (AV×AV×Nat)))
 | []=>some none
 | e :: r=>match e9 q k e.1 with
  | some true=>some (some ((k,v,e.2.2)::r))
  | some false=>match lx q k v r with
   | some (some r')=>some (some (e::r'))
   | some none=>some none
   | none=>none
  | none=>none
def eF (x:G):Eff:=λ F _ _=>match x.f F with
 | some v=>.val v
 | none=>.fail
def vT (c a b:G):Eff:=λ F _ _=>match c.f F with
 | some (.bool true)=>eF a F .nil 0
 | some (.bool false)=>eF b F .nil 0
 | _=>.fail
def ay (z:List AV)(len:Nat):Eff:=λ _ _ n=>.new (.ptr n 0) (.cells len [] z .nil)
def Oq (x:G):Eff:=λ F _ n=>match x.f F with
 | some v=>.new (.ptr n 0) (.cells v.len [] v.cells .nil)
 | none=>.fail
def aJ (z:List AV)(k:Nat)(ps:List (Nat×Nat×G)):Eff:=λ F _ _=>match js F ps z with
 | some cs=>.val (.agg cs k)
 | none=>.fail
def aO (z:List AV)(k sz:Nat)(ps:List (Nat×Nat×G)):Eff:=λ F _ n=>match js F ps (rep z k)with
 | some cs=>.new (.sl n 0 k sz) (.cells (k*sz) [] cs .nil)
 | none=>.fail
def eT:AV->Hp->bP
 | .ptr b o,H=>match H.get b with
  | some (.cells u z bs t)=>match fY u z bs t o with
   | some v=>.val v
   | none=>.fail
  | _=>.fail
 | .dp (v::_),_=>.val v
 | _,_=>.fail
def sy (x:G):Eff:=λ F H _=>match x.f F with
 | some v=>eT v H
 | none=>.fail
def eo (k:Nat):AV->Hp->bP
 | .ptr b o,H=>match H.get b with
  | some (.cells u z bs t)=>match gJ u z bs t o k with
   | some l=>.val (.agg l k)
   | none=>.fail
  | _=>.fail
 | .dp cs,_=>match Nat.ble k cs.length with
  | true=>.val (.agg (cs.take k) k)
  | false=>.fail
 | _,_=>.fail
def kE (k:Nat)(x:G):Eff:=λ F H _=>match x.f F with
 | some v=>eo k v H
 | none=>.fail
def mi (u:Nat) (z bs:List AV) (t:Ov AV) (vs:List AV) (o:Nat):bI:=match t with
 | .nil=>match z with
  | []=>match Nat.ble u 64 with
   | true=>match patch bs o vs with
    | some bs'=>.cells u [] bs' .nil
    | none=>.cells u [] bs (Ov.bO vs o .nil)
   | false=>.cells u [] bs (Ov.bO vs o .nil)
  | a::r=>.cells u (a::r) bs (Ov.bO vs o .nil)
 | .tr x l r=>.cells u z bs (Ov.bO vs o (.tr x l r))
 | .ch s c p=>.cells u z bs (Ov.bO vs o (.ch s c p))
def sI (k:Nat):AV->AV->Hp->bP
 | .ptr b o,v,H=>match H.get b with
  | some (.cells u z bs t)=>match Nat.beq v.len k&&Nat.ble (o+k) u&&bm v.cells with
   | true=>.upd (.bg []) b (mi u z bs t v.cells o)
   | false=>.fail
  | _=>.fail
 | _,_,_=>.fail
def ej (k:Nat) (x v:G):Eff:=λ F H _=>match x.f F with
 | some a=>match v.f F with
  | some v=>sI k a v H
  | none=>.fail
 | none=>.fail
def zi:AV->bP
 | .ptr b o=>.val (.ptr b o)
 | .fn (.func f) a b=>.val (.fn (.func f) a b)
 | .dp cs=>.val (.dp cs)
 | .map b=>.val (.map b)
 | .je b=>.val (.je b)
 | _=>.fail
def bu (x:G):Eff:=λ F _ _=>match x.f F with
 | some v=>zi v
 | none=>.fail
def e1 (c:AV->bP)(x:G):Eff:=λ F _ _=>match x.f F with
 | some v=>c v
 | none=>.fail
def e2 (c:AV->AV->bP) (x y:G):Eff:=λ F _ _=>match x.f F with
 | some a=>match y.f F with
  | some b=>c a b
  | none=>.fail
 | none=>.fail
def lq (k:IntKind)(i:Int):bP:=Ru i λ r=>.val (.int k r)
def xM (c:IntKind->Int->Int->bP):AV->AV->bP
 | .int k a,.int j b=>if k=j then c k a b else .fail
 | _,_=>.fail
def Gu:AV->AV->bP
 | .int k a,.int j b=>if k=j then lq k (k.wrap (a+b))else .fail
 | .str a,.str b=>match Nat.ble (dW a 0+dW b 0) big with
  | true=>.val (.str (a++b))
  | false=>.fail
 | _,_=>.fail
def iP (op:BinOp)(k:IntKind)(a b:Int):bP:=
 match op with
 | .sub=>lq k (k.wrap (a - b))
 | .mul=>lq k (k.wrap (a*b))
 | .quo=>if b=0 then .fail else lq k (k.wrap (a.tdiv b))
 | .rem=>if b=0 then .fail else lq k (a.tmod b)
 | .and=>lq k (k.wrap (BitVec.ofInt k.bits a &&& BitVec.ofInt k.bits b).toNat)
 | .or=>lq k (k.wrap (BitVec.ofInt k.bits a ||| BitVec.ofInt k.bits b).toNat)
 | .xor=>lq k (k.wrap (BitVec.ofInt k.bits a ^^^ BitVec.ofInt k.bits b).toNat)
 | .andNot=>lq k (k.wrap (BitVec.ofInt k.bits a &&& ~~~ BitVec.ofInt k.bits b).toNat)
 | _=>.fail
def oM (op:BinOp):AV->AV->bP
 | .int k a,.int j b=>if k=j then (match op with
  | .lss=>.val (.bool (decide (a<b)))
  | .leq=>.val (.bool (decide (a<=b)))
  | .gtr=>.val (.bool (decide (a>b)))
  | .geq=>.val (.bool (decide (a>=b)))
  | _=>.fail)else .fail
 | .str a,.str b=>match op with
  | .lss=>.val (.bool (iV a b))
  | .leq=>.val (.bool (iV a b||eP a b))
  | .gtr=>.val (.bool (!(iV a b||eP a b)))
  | .geq=>.val (.bool (!iV a b))
  | _=>.fail
 | _,_=>.fail
def sJ (op:BinOp):AV->AV->bP
 | .int k a,.int _ (.ofNat b)=>match op with
  | .shl=>lq k (k.wrap (a*2 ^ (min b k.bits)))
  | .shr=>lq k (a.fdiv (2 ^ (min b k.bits)))
  | _=>.fail
 | _,_=>.fail
def aV (op:BinOp):AV->AV->bP:=match op with
 | .add=>Gu
 | .lss | .leq | .gtr | .geq=>oM op
 | .shl | .shr=>sJ op
 | _=>xM (iP op)
def bl (neg:Bool)(q:EqK)(a b:AV):bP:=match mq q a b with
 | some r=>.val (.bool (neg != r))
 | none=>.fail
def rq (neg:Bool) (ks:List LK):AV->AV->bP
 | .agg a n,.agg b m=>match Nat.beq n ks.length&&Nat.beq m ks.length with
  | true=>match cg ks a b with
   | some r=>.val (.bool (neg != r))
   | none=>.fail
  | false=>.fail
 | _,_=>.fail
def fa (op:UnOp):AV->bP
 | .bool b=>match op with
  | .not=>.val (.bool (!b))
  | _=>.fail
 | .int k a=>match op with
  | .neg=>lq k (k.wrap (0 - a))
  | .xor=>lq k (k.wrap (BitVec.ofInt k.bits (if k.signed then -1 else k.max) ^^^ BitVec.ofInt k.bits a).toNat)
  | _=>.fail
 | _=>.fail
def iA (f:Fn) (a b:List G):Eff:=λ F _ _=>match fM F a with
 | some a=>match fM F b with
  | some b=>.val (.fn f a b)
  | none=>.fail
 | none=>.fail
def qg:Eff:=λ _ _ n=>.new (.map n) (.map [] 0)
def jZ (sz:Nat) (lo hi mx:Option AV):AV->bP
 | .sl b o len s=>match Bl len lo hi mx with
  | some (l,h)=>match Nat.beq s sz with
   | true=>iL (o+l*sz) λ o'=>iL (h - l) λ len'=>.val (.sl b o' len' sz)
   | false=>.fail
  | none=>.fail
 | .ds cs len s=>match Bl len lo hi mx with
  | some (l,h)=>match Nat.beq s sz with
   | true=>.val (.ds ((cs.drop (l*sz)).take ((h - l)*sz)) (h - l) sz)
   | false=>.fail
  | none=>.fail
 | .ak (.slice none 0 0)=>match Bl 0 lo hi mx with
  | some _=>.val (.ak (.slice none 0 0))
  | none=>.fail
 | _=>.fail
def xO (c:Option AV->Option AV->Option AV->AV->bP) (x:G) (lo hi mx:Option G):Eff:=λ F _ _=>match uk F lo with
 | some lo=>match uk F hi with
  | some hi=>match uk F mx with
   | some mx=>match x.f F with
    | some v=>c lo hi mx v
    | none=>.fail
   | none=>.fail
  | none=>.fail
 | none=>.fail
def wo (k:Nat):AV->bP
 | .ptr b o=>iL (o+k) λ o'=>.val (.ptr b o')
 | .dp cs=>.val (.dp (cs.drop k))
 | _=>.fail
def ac2 (o:Nat):AV->bP
 | .agg cs _=>match nth cs o with
  | some v=>.val v
  | none=>.fail
 | _=>.fail
def ac1 (o k:Nat):AV->bP
 | .agg cs n=>match Nat.ble (o+k) n with
  | true=>.val (.agg ((cs.drop o).take k) k)
  | false=>.fail
 | _=>.fail
def cO (sz:Nat):AV->AV->bP
 | .sl b o len s,.int _ (.ofNat i)=>match Nat.blt i len&&Nat.beq s sz with
  | true=>iL (o+i*sz) λ o'=>.val (.ptr b o')
  | false=>.fail
 | .ds cs len s,.int _ (.ofNat i)=>match Nat.blt i len&&Nat.beq s sz with
  | true=>.val (.dp (cs.drop (i*sz)))
  | false=>.fail
 | _,_=>.fail
def rp:AV->AV->bP
 | .str l,.int _ (.ofNat i)=>match nth l i with
  | some c=>.val (.int .u8 (Int.ofNat c))
  | none=>.fail
 | _,_=>.fail
def mD (i:Nat):AV->bP
 | .bg vs=>match nth vs i with
  | some v=>.val v
  | none=>.fail
 | _=>.fail
def my:AV->bP
 | .str l=>.val (.int .i64 (Int.ofNat (dW l 0)))
 | _=>.fail
def aX:AV->bP
 | .sl _ _ len _=>.val (.int .i64 (Int.ofNat len))
 | .ds _ len _=>.val (.int .i64 (Int.ofNat len))
 | .ak (.slice none _ len)=>match len with
  | 0=>.val (.int .i64 0)
  | _=>.fail
 | _=>.fail
def Sd (sz n b o len m:Nat) (new:List AV):Option bI->bP
 | some (.cells u z bs t)=>match Nat.beq o 0&&Nat.ble (len*sz) u with
  | true=>iL (len+m) λ k=>iL (k*sz) λ u'=>.mv (.sl n 0 k sz) b (.cells u' z bs (Ov.bO new (len*sz) t))
  | false=>match gJ u z bs t o (len*sz)with
   | some old=>.mv (.sl n 0 (len+m) sz) b (.cells ((len+m)*sz) [] (old++new) .nil)
   | none=>.fail
 | _=>.fail
def tK (sz jV n m:Nat) (new:List AV) (H:Hp):AV->bP
 | .sl b o len q=>match Nat.beq m 0 with
  | true=>.val (.sl b o len q)
  | false=>match Nat.beq q sz&&Nat.blt 0 sz&&Nat.ble (len+m) big&&Nat.ble jV 4096&&bm new with
   | true=>Sd sz n b o len m new (H.get b)
   | false=>.fail
 | .ak (.slice none 0 0)=>match Nat.beq m 0 with
  | true=>.val (.ak (.slice none 0 0))
  | false=>match Nat.blt 0 sz&&Nat.ble m big&&Nat.ble jV 4096&&bm new with
   | true=>.new (.sl n 0 m sz) (.cells (m*sz) [] new .nil)
   | false=>.fail
 | _=>.fail
def lU (sz jV n:Nat) (s x:AV) (H:Hp):bP:=match bZ H sz x with
 | some new=>match sliceLen x with
  | some m=>tK sz jV n m new H s
  | none=>.fail
 | none=>.fail
def dG (sz jV:Nat) (s x:G):Eff:=λ F H n=>match s.f F with
 | some s=>match x.f F with
  | some x=>lU sz jV n s x H
  | none=>.fail
 | none=>.fail
def isKey:LK->AV->Bool
 | .i,.int _ _=>true
 | .s,.str _=>true
 | _,_=>false
def lS (q:LK) (z:AV) (ok:Bool) (m k:AV) (H:Hp):bP:=match m with
 | .map b=>match H.get b with
  | some (.map es _)=>match isKey q k with
   | true=>match findKey q k es with
    | some (some v)=>.val (bif ok then .bg [v,.bool true]else v)
    | some none=>.val (bif ok then .bg [z,.bool false]else z)
    | none=>.fail
   | false=>.fail
  | _=>.fail
 | _=>.fail
def lP (q:LK) (z:AV) (ok:Bool) (x i:G):Eff:=λ F H _=>match x.f F with
 | some m=>match i.f F with
  | some k=>lS q z ok m k H
  | none=>.fail
 | none=>.fail
def wm (q:LK) (m k v:AV) (H:Hp):bP:=match m with
 | .map b=>match H.get b with
  | some (.map es c)=>match isKey q k with
   | true=>match lx q k v es with
    | some (some es')=>.upd (.bg []) b (.map es' c)
    | some none=>.upd (.bg []) b (.map (es++[(k,v,c)]) (c+1))
    | none=>.fail
   | false=>.fail
  | _=>.fail
 | _=>.fail
def y9 (q:LK) (m k v:G):Eff:=λ F H _=>match m.f F with
 | some m=>match k.f F with
  | some k=>match v.f F with
   | some v=>wm q m k v H
   | none=>.fail
  | none=>.fail
 | none=>.fail
end Go.Abs
namespace Go.Abs
open List
def ajL:Nat->List (IntKind×Int):=λ _=>[]
def aoO:Nat->Option (Array Value):=λ _=>none
structure Pd where
 f:AV->Fr->Fr
def opK (pd:Pd) (e:Eff) (next:K):K:=.mk <| λ ce F H n m =>
 bP.rec (motive:=λ _=>Kv) .fail
  (λ v=>next.f ce (pd.f v F) H n m)
  (λ v k=>next.f ce (pd.f v F) (H.put n (some k)) (Nat.succ n) m)
  (λ v b k=>next.f ce (pd.f v F) (H.put b (some k)) n m)
  (λ v b k=>next.f ce (pd.f v F) ((H.put b none).put n (some k)) (Nat.succ n) m) (e F H n)
def Qx (pd:Pd)(next:K):K:=.mk <| λ ce F H n m=>next.f ce (pd.f (.bg []) F) H n m
def pQ (g:G)(want:Bool)(yes no:K):K:=.mk <| λ ce F H n m=>match g.f F with
 | some (.bool b)=>bif b == want then yes.f ce F H n m else no.f ce F H n m
 | some _=>no.f ce F H n m
 | none=>.fail
def Eg:K:=.mk <| λ _ F H n m=>.mk .normal F H n m
def Fu (a b:K):K:=.mk <| λ ce F H n m=>match a.f ce F H n m with
 | .mk .normal F' H' n' m'=>b.f ce F' H' n' m'
 | r=>r
def zb (g:G)(a b:K):K:=.mk <| λ ce F H n m=>match g.f F with
 | some (.bool true)=>a.f ce F H n m
 | some (.bool false)=>b.f ce F H n m
 | _=>.fail
def sK (i:Nat)(b:K):K:=.mk <| λ ce F H n m=>match b.f ce F H n m with
 | .mk (.exit j) F' H' n' m'=>bif Nat.beq i j then .mk .normal F' H' n' m' else .mk (.exit j) F' H' n' m'
 | r=>r
def DD (b:K) (ce:Ce) (k:Nat):Fr->Hp->Nat->List Dm->Kv:=
 Nat.rec (motive:=λ _=>Fr->Hp->Nat->List Dm->Kv) (λ _ _ _ _=>.fail) (λ _ ih F H n m=>match b.f ce F H n m with
  | .mk .normal F' H' n' m'=>ih F' H' n' m'
  | r=>r) k
def yO (b:K):K:=.mk <| λ ce F H n m=>DD b ce big F H n m
def J3 (i:Nat):K:=.mk <| λ _ F H n m=>.mk (.exit i) F H n m
def Z6:K:=.mk <| λ _ F H n m=>.mk .ret F H n m
def gF:K:=.mk <| λ _ _ _ _ _=>.fail
def oT (nt:Nat):List Nat->List AV->Fr->Option Fr
 | [],[],F=>some F
 | p::ps,v::vs,F=>match Nat.blt p nt with
  | true=>oT nt ps vs (F.put p (some v))
  | false=>none
 | _,_,_=>none
def CY (ce:Ce) (q:Nat) (args:List AV) (H:Hp) (n:Nat):iq:=match H.get q with
 | some (.loop _ _ nt F0 ps a b)=>match oT nt ps args F0 with
  | some F1 => match ce.code nt a F1 H n with
   | .mk .normal F2 H2 n2 []=>match H2.get q with
    | some (.loop .ready j2 FC G2 ps2 a2 b2)=>match ce.code nt b F2 (H2.put q (some (.loop .busy j2 FC G2 ps2 a2 b2))) n2 with
     | .mk j _ H3 n3 _=>match H3.get q with
      | some (.loop _ _ E9 G3 E8 a3 b3)=>match j with
       | .normal=>.mk (.bool true) (H3.put q (some (.loop .ready .normal E9 G3 E8 a3 b3))) n3
       | .exit i=>.mk (.bool false) (H3.put q (some (.loop .done (.exit i) E9 G3 E8 a3 b3))) n3
       | .ret=>.mk (.bool false) (H3.put q (some (.loop .done .ret E9 G3 E8 a3 b3))) n3
       | .panic _=>.fail
      | _=>.fail
     | _=>.fail
    | _=>.fail
   | _=>.fail
  | none=>.fail
 | _=>.fail
def rm (pd:Pd) (g:G) (args:List G) (next:K):K:=.mk <| λ ce F H n m=>match g.f F with
 | some (.fn (.func f) first cap)=>match fM F args with
  | some as=>match ce.call f (first++(as++cap)) H n with
   | .mk v H' n'=>next.f ce (pd.f v F) H' n' m
   | .pE v H' n'=>.mk (.panic v) F H' n' m
   | .fail=>.fail
  | none=>.fail
 | some (.je q)=>match fM F args with
  | some as=>match CY ce q as H n with
   | .mk v H' n'=>next.f ce (pd.f v F) H' n' m
   | _=>.fail
  | none=>.fail
 | _=>.fail
def zX (nt:Nat) (g:G) (ps:List Nat) (a b:Code):K:=.mk <| λ ce F H n m=>match g.f F with
 | some (.fn (.func f) first cap) =>
  match ce.call f (first++(.je n::cap)) ((H.put (Nat.succ n) (some .kX)).put n (some (.loop .ready .normal nt F ps a b))) (Nat.succ (Nat.succ n))with
  | .mk _ H' n'=>match H'.get n with
   | some (.loop .busy _ _ _ _ _ _)=>.fail
   | some (.loop _ (.panic _) _ _ _ _ _)=>.fail
   | some (.loop _ j _ _ _ _ _)=>.mk j F (H'.put n none) n' (.cu (Nat.succ n)::m)
   | _=>.fail
  | _=>.fail
 | _=>.fail
def AZ (pd:Pd) (g:G) (args:List G) (next:K):K:=.mk <| λ ce F H n m=>match g.f F with
 | some (.fn (.func f) first cap)=>match fM F args with
  | some as=>next.f ce (pd.f (.bg []) F) H n (.fn f (first++(as++cap))::m)
  | none=>.fail
 | _=>.fail
def Ad (g:G):K:=.mk <| λ _ F H n m=>match g.f F with
 | some (.kV t v)=>.mk (.panic (.kV t v)) F H n m
 | _=>.fail
def sL:Value->Option AV
 | .int k n=>some (.int k n)
 | .bool b=>some (.bool b)
 | .string s=>some (.str (s.data.toList.map UInt8.toNat))
 | v=>if atom v then some (.ak v)else none
def km:List Value->Option (List AV)
 | []=>some []
 | v :: r=>match sL v with
  | some a=>match km r with
   | some l=>some (a::l)
   | none=>none
  | none=>none
def OB:Value->Option AV
 | .agg cs=>(km cs.toList).map λ l=>.agg l (dW l 0)
 | .tuple ⟨[]⟩=>some (.bg [])
 | .iface t v=>(sL v).map (.kV t)
 | v=>sL v
def aF (v:AV):G:=⟨λ _=>some v⟩
def aC (t:Nat):G:=⟨(Tr.abd (Nat.succ t) t).f⟩
def AR:List (IntKind×Int)->List AV
 | []=>[]
 | (k,n)::r=>.int k n::AR r
def gAv (g:Nat):Option (List AV):=match ajL g with
 | []=>none
 | a::r=>some (AR (a::r))
def dM:Operand->Option G
 | .tmp t=>some (aC t)
 | .const v=>(OB v).map aF
 | .func f=>some (aF (.fn (.func f) [] []))
 | .global g=>match gAv g with
  | some l=>some (aF (.dp l))
  | none=>none
def jv:List Operand->Option (List G)
 | []=>some []
 | x :: r=>match dM x with
  | some a=>match jv r with
   | some l=>some (a::l)
   | none=>none
  | none=>none
def mV:Option Operand->Option (Option G)
 | none=>some none
 | some x=>(dM x).map some
def cT (P:Program)(t:TypeId):Option Nat:=(P.info? t).map (·.size)
def Gv (P:Program)(t:TypeId):Option Nat:=(P.info? t).map (·.bytes)
def oO (P:Program) (t:TypeId):Option (List AV):=match P.info? t with
 | some i=>match i.zero with
  | some z=>km z.cells.toList
  | none=>none
 | none=>none
def gK (P:Program)(t:TypeId):Option Bool:=
 match P.underlying t with
 | some (.struct _) | some (.array _ _)=>some true
 | some _=>some false
 | none=>none
def qS (P:Program) (r:TypeId->Option (List LK)):List Field->Nat->Option (List LK)
 | [],_=>some []
 | f :: fs, s => if f.name = "_" then none else if f.offset = s then (match r f.type with
  | some k=>if cT P f.type=some k.length then (match qS P r fs (s+k.length)with
   | some l=>some (k++l)
   | none=>none)else none
  | none=>none)else none
def mJ (n:Nat)(k:List LK):List LK:=match n with
 | 0=>[]
 | n+1=>k++mJ n k
def leaves (P:Program):Nat->TypeId->Option (List LK)
 | 0,_=>none
 | d + 1,t=>match P.underlying t with
  | some .bool=>some [.b]
  | some (.int _)=>some [.i]
  | some .string=>some [.s]
  | some (.struct fs)=>if P.stoodInHeld t then none else qS P (leaves P d) fs.toList 0
  | some (.array n e)=>match leaves P d e with
   | some k=>if cT P e=some k.length then some (mJ n k)else none
   | none=>none
  | _=>none
def qT:Operand->Bool
 | .const _=>true
 | _=>false
def vR (P:Program) (ak:Bool) (t:TypeId):Option EqK:=match P.underlying t with
 | some (.int _)=>some .num
 | some .string=>some .num
 | some .bool=>some .bool
 | some (.pointer e)=>match cT P e with
  | some (_+1)=>some .ptr
  | _=>none
 | some (.slice _)=>some .slice
 | some (.map _ _)=>some .map
 | some (.func _ _ _)=>some .func
 | some (.interface _)=>some (if ak then .pN else .iface)
 | _=>none
def sG (P:Program) (s:TypeId) (f:Nat):Option (Nat×TypeId):=match P.underlying s with
 | some (.struct fs)=>match fs[f]? with
  | some fd=>match cT P fd.type with
   | some (_+1)=>some (fd.offset,fd.type)
   | _=>none
  | none=>none
 | _=>none
def y8 (P:Program)(t:TypeId):Option TypeId:=match P.underlying t with
 | some (.slice e)=>some e
 | _=>none
def fJ (place:Nat->Option (Nat×Nat)):List (Nat×Operand)->Option (List (Nat×Nat×G))
 | []=>some []
 | (i, x)::r=>match place i with
  | some (o,s)=>match dM x with
   | some a=>match fJ place r with
    | some l=>some ((o,s,a)::l)
    | none=>none
   | none=>none
  | none=>none
def isEq:BinOp->Bool
 | .eql=>true
 | .neq=>true
 | _=>false
def j7:BinOp->Bool
 | .neq=>true
 | _=>false
def Be (P : Program) (op:BinOp) (t:TypeId) (x y:Operand):Option Eff:=
 match dM x with
 | some a=>match dM y with
  | some b=>match isEq op with
   | true=>match P.underlying t with
    | some (.struct _)=>match leaves P 20 t with
     | some k=>if P.eqGuardType P.depth t then none else some (e2 (rq (j7 op) k) a b)
     | none=>none
    | some (.array _ _)=>match leaves P 20 t with
     | some k=>if P.eqGuardType P.depth t then none else some (e2 (rq (j7 op) k) a b)
     | none=>none
    | _=>match vR P (qT x||qT y) t with
     | some q=>some (e2 (bl (j7 op) q) a b)
     | none=>none
   | false=>some (e2 (aV op) a b)
  | none=>none
 | none=>none
def NZ (P:Program)(k:TypeId):Option LK:=match P.underlying k with
 | some (.int _)=>some .i
 | some .string=>some .s
 | _=>none
def nu (P:Program) (c:Call):Builtin->Option Eff
 | .len=>do
  let t <-c.argTypes[0]?
  let x <-c.args[0]?
  match P.underlying t with
  | some (.array n _)=>some λ _ _ _=>.val (.int .i64 (Int.ofNat n))
  | some (.pointer arr)=>match P.underlying arr with
   | some (.array n _)=>some λ _ _ _=>.val (.int .i64 (Int.ofNat n))
   | _=>none
  | some .string=>some (e1 my (<-dM x))
  | some (.slice _)=>some (e1 aX (<-dM x))
  | _=>none
 | .append=>do
  let t <-c.argTypes[0]?
  let u <-c.argTypes[1]?
  let s <-c.args[0]?
  let x <-c.args[1]?
  let e <-y8 P t
  match P.underlying u with
  | some (.int _) | none=>none
  | _ => match oO P e with
   | some z=>match cT P e with
    | some sz=>if z.length=sz then do some (dG sz (<-Gv P e) (<-dM s) (<-dM x))else none
    | none=>none
   | none=>none
 | _=>none
def J8 (_:Program)(_:FuncId)(_:List Operand):Option Eff:=none
def dN (P:Program) (o:Oper):Option Eff:=
 match o.op with
 | .move x | .assign x=>(dM x).map eF
 | .pick c a b=>do some (vT (<-dM c) (<-dM a) (<-dM b))
 | .alloc e=>(oO P e).map λ z=>ay z (dW z 0)
 | .box _ x=>(dM x).map Oq
 | .build t ps=>do
  let z <-oO P t
  match P.underlying t with
  | some (.struct fs) =>
   match fs.toList.mapM (λ f=>(P.info? f.type).map λ i=>(f.offset,i.size))with
   | some places=>(fJ (λ i=>places[i]?) ps.toList).map (aJ z (dW z 0))
   | none=>none
  | some (.array _ e) =>
   match P.info? e with
   | some ie=>(fJ (λ i=>some (i*ie.size,ie.size)) ps.toList).map (aJ z (dW z 0))
   | none=>none
  | _=>none
 | .buildSlice t n ps=>do
  let e <-y8 P t
  let k <-cT P e
  let z <-oO P e
  let l <-fJ (λ i=>some (i*k,k)) ps.toList
  if z.length=k&&n*k<=16777216 then some (aO z n k l)else none
 | .load t a=>do
  let x <-dM a
  if <-gK P t then some (kE (<-cT P t) x)else some (sy x)
 | .store t a v=>do some (ej (<-cT P t) (<-dM a) (<-dM v))
 | .nilCheck x=>(dM x).map bu
 | .binOp op t x y _=>Be P op t x y
 | .unOp op _ x=>(dM x).map (e1 (fa op))
 | .makeFunc f a b=>do some (iA f (<-jv a.toList) (<-jv b.toList))
 | .makeMap _ none=>some qg
 | .makeMap t (some (.const (.int _ _)))=>match P.underlying t with
  | some (.map _ _)=>some qg
  | _=>none
 | .lookup t x i ok=>match P.underlying t with
  | some (.map k e)=>do
   let z <-(P.info? e).bind (·.zero)
   some (lP (<-NZ P k) (<-OB z) ok (<-dM x) (<-dM i))
  | _=>none
 | .mapUpdate t m k v | .insert t m k v=>match P.underlying t with
  | some (.map q _)=>do some (y9 (<-NZ P q) (<-dM m) (<-dM k) (<-dM v))
  | _=>none
 | .slice t x lo hi mx =>
  match P.underlying t with
  | some (.slice e)=>if mx.isNone||hi.isSome then do some (xO (jZ (<-cT P e)) (<-dM x) (<-mV lo) (<-mV hi) (<-mV mx))else none
  | _=>none
 | .fieldAddr s x f=>do
  let (off,_) <-sG P s f
  some (e1 (wo off) (<-dM x))
 | .indexAddr t x i =>
  match P.underlying t with
  | some (.slice e)=>do some (e2 (cO (<-cT P e)) (<-dM x) (<-dM i))
  | _=>none
 | .index t x i =>
  match P.underlying t with
  | some .string=>do some (e2 rp (<-dM x) (<-dM i))
  | _=>none
 | .extract t i=>do some (e1 (mD i) (<-dM t))
 | .call c=>match c.callee with
  | .builtin b=>nu P c b
  | .value (.func f)=>J8 P f c.args.toList
  | _=>none
 | _=>none
def QB (P : Program) (t:TypeId) (name:String):Option FuncId:=match P.info? t with
 | some ti=>match ti.methods.find? (·.name == name)with
  | some m=>match m.path.toList with
   | []=>match m.func with
    | some (f,pr)=>match P.underlying t with
     | some (.pointer _)=>if pr then some f else none
     | some _=>if pr then none else some f
     | none=>none
    | none=>none
   | _=>none
  | none=>none
 | none=>none
def FO (P:Program) (name:String) (g:G):G:=⟨λ F=>match g.f F with
 | some (.kV t v)=>match QB P t name with
  | some f=>some (.fn (.func f) [v] [])
  | none=>none
 | _=>none⟩
def eS (nt:Nat):Option Tmp->Option Pd
 | none=>some ⟨λ _ F=>F⟩
 | some d=>if d<nt then some ⟨λ v F=>(Tr.uZ (Nat.succ d) d).f (some v) F⟩else none
def sF (P:Program) (pd:Pd) (o:Oper) (next:K):K:=
 match o.op with
 | .call {callee:=.value f,args,argTypes:=_}=>match dN P o with
  | some e=>opK pd e next
  | none=>match dM f,jv args.toList with
   | some g,some as=>rm pd g as next
   | _,_=>gF
 | .call {callee:=.invoke x name,args,argTypes:=_}=>match dM x,jv args.toList with
  | some g,some as=>rm pd (FO P name g) as next
  | _,_=>gF
 | .panic x=>match dM x with
  | some g=>Ad g
  | none=>gF
 | .defer {callee:=.value f,args,argTypes:=_}=>match dM f,jv args.toList with
  | some g,some as=>AZ pd g as next
  | _,_=>gF
 | _=>match dN P o with
  | some e=>opK pd e next
  | none=>gF
def ri (P:Program) (nt:Nat) (ops:Array Oper) (o:Oper) (next:K):K:=
 match eS nt o.dst with
 | none=>gF
 | some pd=>match o.guard with
  | none=>sF P pd o next
  | some (j,b)=>match (ops[j]?).bind (·.dst)with
   | some d=>pQ (aC d) b (sF P pd o next) (Qx pd next)
   | none=>gF
def qZ (P:Program)(nt:Nat)(ops:Array Oper):List Oper->K
 | []=>Eg
 | o::r=>ri P nt ops o (qZ P nt ops r)
structure KR where
 f:Ce->Fr->Hp->List Hp->Nat->List Dm->Kv
structure RS where
 f:Fr->Fr
inductive eL where
 | op (i e:Nat)
 | mod (i:Nat)
 | Di (i:Nat)
 | iM (i:Nat)
def am3:RS:=⟨λ _=>.nil⟩
def Pp (t:Nat)(r:RS):RS:=⟨λ F=>(Tr.uZ (Nat.succ t) t).f ((aC t).f F) (r.f F)⟩
def cF:List Nat->RS
 | []=>am3
 | t::l=>Pp t (cF l)
def gX:List Nat->Fr->Fr
 | [],F=>F
 | t::l,F=>gX l ((Tr.uZ (Nat.succ t) t).f none F)
def RV:Value->Value->Bool
 | .pointer none,.pointer none=>true
 | .slice none 0 0,.slice none 0 0=>true
 | .nilIface,.nilIface=>true
 | .nilFunc,.nilFunc=>true
 | .map none,.map none=>true
 | _,_=>false
def Ez:AV->AV->Bool
 | .int j a,.int k b=>decide (j=k)&&decide (a=b)
 | .bool a,.bool b=>a == b
 | .str a,.str b=>eP a b
 | .ptr a o,.ptr b p=>Nat.beq a b&&Nat.beq o p
 | .sl a o l s,.sl b p m r=>Nat.beq a b&&Nat.beq o p&&Nat.beq l m&&Nat.beq s r
 | .map a,.map b=>Nat.beq a b
 | .ak x,.ak y=>RV x y
 | .fn (.func f) [] [],.fn (.func g) [] []=>Nat.beq f g
 | _,_=>false
def Kq:AV->AV->Bool
 | .kV t v,.kV u w=>Nat.beq t u&&Ez v w
 | v,w=>Ez v w
def zk:List AV->List AV->Bool
 | [],[]=>true
 | a::x,b::y=>match Kq a b with
  | true=>zk x y
  | false=>false
 | _,_=>false
def Sl:AV->AV->Bool
 | .agg a n,.agg b m=>Nat.beq n m&&zk a b
 | v,w=>Kq v w
def vQ (f:AV->AV->Bool):List AV->List AV->Bool
 | [],[]=>true
 | a::x,b::y=>match f a b with
  | true=>vQ f x y
  | false=>false
 | _,_=>false
def RH:Nat->AV->AV->Bool
 | 0,_,_=>false
 | k+1,a,b=>match a,b with
  | .agg x n,.agg y m=>Nat.beq n m&&vQ (RH k) x y
  | .bg x,.bg y=>vQ (RH k) x y
  | .kV t v,.kV u w=>Nat.beq t u&&RH k v w
  | .fn (.func f) a b,.fn (.func g) c d=>Nat.beq f g&&vQ (RH k) a c&&vQ (RH k) b d
  | .je a,.je b=>Nat.beq a b
  | .ds x n s,.ds y m t=>Nat.beq n m&&Nat.beq s t&&vQ (RH k) x y
  | .dp x,.dp y=>vQ (RH k) x y
  | a,b=>Ez a b
open Classical in
def Gy (v w:AV):Bool:=match Sl v w with
 | true=>true
 | false=>match RH 8 v w with
  | true=>true
  | false=>decide (v=w)
def fb (e : Eff) (F:Fr) (n:Nat):Nat->List Hp->Option AV
 | 0,_=>none
 | _+1,[]=>none
 | k + 1,A::As=>match e F A n with
  | .val v=>match k with
   | 0=>some v
   | _ => match fb e F n k As with
    | some u=>match Gy v u with
     | true=>some u
     | false=>none
    | none=>none
  | _=>none
def iI (n:Nat):List Hp->Bool
 | []=>true
 | A::As=>match A.get n with
  | none=>iI n As
  | some _=>false
def opR (rs:RS) (pd:Pd) (e:Eff) (cnt:Nat) (next:KR):KR:=.mk <| λ ce F H Hs n m=>match e (rs.f F) .nil n with
 | .val v=>next.f ce (pd.f v F) H Hs n m
 | .new v k=>match iI n Hs with
  | true=>next.f ce (pd.f v F) (H.put n (some k)) Hs (Nat.succ n) m
  | false=>.fail
 | .fail=>match fb e (rs.f F) n cnt Hs with
  | some v=>next.f ce (pd.f v F) H Hs n m
  | none=>.fail
 | _=>.fail
def NN (pd:Pd)(next:KR):KR:=.mk <| λ ce F H Hs n m=>next.f ce (pd.f (.bg []) F) H Hs n m
def NP (pd:Pd)(next:KR):KR:=.mk <| λ ce F H Hs n m=>next.f ce (pd.f (.bg []) F) H (H::Hs) n m
def Dx (rs:RS)(pd:Pd)(e:Eff)(next:KR):KR:=.mk <| λ ce F H Hs n m=>match e (rs.f F) H n with
 | .val v=>next.f ce (pd.f v F) H (H::Hs) n m
 | .new v k=>next.f ce (pd.f v F) (H.put n (some k)) (H.put n (some k)::Hs) (Nat.succ n) m
 | .upd v b k=>next.f ce (pd.f v F) (H.put b (some k)) (H.put b (some k)::Hs) n m
 | .mv v b k=>next.f ce (pd.f v F) ((H.put b none).put n (some k)) ((H.put b none).put n (some k)::Hs) (Nat.succ n) m
 | .fail=>.fail
def iB (rs:RS) (pd:Pd) (g:G) (args:List G) (next:KR):KR:=.mk <| λ ce F H Hs n m=>match g.f (rs.f F)with
 | some (.fn (.func f) first cap)=>match fM (rs.f F) args with
  | some as=>match ce.call f (first++(as++cap)) H n with
   | .mk v H' n'=>next.f ce (pd.f v F) H' (H'::Hs) n' m
   | _=>.fail
  | none=>.fail
 | some (.je q)=>match fM (rs.f F) args with
  | some as=>match CY ce q as H n with
   | .mk v H' n'=>next.f ce (pd.f v F) H' (H'::Hs) n' m
   | _=>.fail
  | none=>.fail
 | _=>.fail
def vF (rs:RS)(g:G)(want:Bool)(yes no:KR):KR:=.mk <| λ ce F H Hs n m=>match g.f (rs.f F)with
 | some (.bool b)=>bif b == want then yes.f ce F H Hs n m else no.f ce F H Hs n m
 | some _=>no.f ce F H Hs n m
 | none=>.fail
def Rw (rs:RS) (pd:Pd) (e:Eff) (next:KR):KR:=.mk <| λ ce F H Hs n m=>match Hs with
 | []=>.fail
 | B :: l=>match e (rs.f F) B n with
  | .upd v b k=>match B.get b with
   | some _=>next.f ce (pd.f v F) (H.put b (some k)) (B.put b none::l) n m
   | none=>.fail
  | _=>.fail
def ajW:KR:=.mk <| λ _ F H _ n m=>.mk .normal F H n m
def iz:KR:=.mk <| λ _ _ _ _ _ _=>.fail
def uL:List Operand->List Nat
 | []=>[]
 | .tmp t::l=>t::uL l
 | _::l=>uL l
def slotsOf (ops:Array Oper) (o:Oper):List Nat:=match o.guard with
 | none=>uL o.op.operands.toList
 | some (j,_)=>match (ops[j]?).bind (·.dst)with
  | some d=>d::uL o.op.operands.toList
  | none=>uL o.op.operands.toList
def inR (P:Program)(rs:RS)(pd:Pd)(o:Oper)(cnt:Nat)(next:KR):KR:=match dN P o with
 | some e=>opR rs pd e cnt next
 | none=>iz
def inM (P:Program) (rs:RS) (pd:Pd) (o:Oper) (next:KR):KR:=match o.op with
 | .call {callee:=.value f,args,argTypes:=_}=>match dN P o with
  | some e=>Dx rs pd e next
  | none=>match dM f,jv args.toList with
   | some g,some as=>iB rs pd g as next
   | _,_=>iz
 | .call {callee:=.invoke x name,args,argTypes:=_}=>match dM x,jv args.toList with
  | some g,some as=>iB rs pd (FO P name g) as next
  | _,_=>iz
 | _=>match dN P o with
  | some e=>Dx rs pd e next
  | none=>iz
def inF (P:Program) (rs:RS) (pd:Pd) (o:Oper) (next:KR):KR:=match o.op with
 | .store _ _ _=>match dN P o with
  | some e=>Rw rs pd e next
  | none=>iz
 | _=>iz
def guarded (ops:Array Oper) (rs:RS) (o:Oper) (yes no:KR):KR:=match o.guard with
 | none=>yes
 | some (j,b)=>match (ops[j]?).bind (·.dst)with
  | some d=>vF rs (aC d) b yes no
  | none=>iz
def fO (P:Program) (nt:Nat) (ops:Array Oper):List eL->Nat->KR
 | [],_=>ajW
 | .op i e::l,j=>match ops[i]? with
  | some o=>match eS nt o.dst with
   | some pd=>guarded ops (cF (slotsOf ops o)) o (inR P (cF (slotsOf ops o)) pd o (Nat.succ (Nat.sub j e)) (fO P nt ops l j)) (NN pd (fO P nt ops l j))
   | none=>iz
  | none=>iz
 | .mod i::l,j=>match ops[i]? with
  | some o=>match eS nt o.dst with
   | some pd=>guarded ops (cF (slotsOf ops o)) o (inM P (cF (slotsOf ops o)) pd o (fO P nt ops l (Nat.succ j))) (NP pd (fO P nt ops l (Nat.succ j)))
   | none=>iz
  | none=>iz
 | .Di i::l,j=>match ops[i]? with
  | some o=>match eS nt o.dst with
   | some pd=>guarded ops (cF (slotsOf ops o)) o (inR P (cF (slotsOf ops o)) pd o 0 (fO P nt ops l j)) (NN pd (fO P nt ops l j))
   | none=>iz
  | none=>iz
 | .iM i::l,j=>match ops[i]? with
  | some o=>match eS nt o.dst with
   | some pd=>match o.guard with
    | none=>inF P (cF (slotsOf ops o)) pd o (fO P nt ops l j)
    | some _=>iz
   | none=>iz
  | none=>iz
def tb (m i:Nat):Bool:=Nat.beq (Nat.land (Nat.shiftRight m i) 1) 1
def EB (T:Tr Nat):List Edge->Nat->Nat
 | [],s=>s
 | e::l,s=>match Region.binds .any e with
  | true=>EB T l (Nat.lor (Nat.lor s (Nat.shiftLeft 1 e.on)) (jK (T.get e.on) 0 id))
  | false=>EB T l s
def k_:List Oper->Nat->Tr Nat->Tr Nat
 | [],_,T=>T
 | o::l,i,T=>k_ l (Nat.succ i) (iL (EB T o.after.toList 0) λ m=>T.put i (some m))
def aa6:Op->Bool
 | .call {callee:=.value _,args:=_,argTypes:=_}=>true
 | .call {callee:=.invoke _ _,args:=_,argTypes:=_}=>true
 | .call {callee:=.builtin .append,args:=_,argTypes:=_}=>true
 | .call {callee:=.builtin .copy,args:=_,argTypes:=_}=>true
 | .call {callee:=.builtin .delete,args:=_,argTypes:=_}=>true
 | .store _ _ _=>true
 | .mapUpdate _ _ _ _=>true
 | .insert _ _ _ _=>true
 | .call {callee:=.builtin .clear,args:=_,argTypes:=_}=>true
 | .next _ _=>true
 | _=>false
def dI (T:Tr Nat)(i:Nat):Nat:=jK (T.get i) 0 id
def apb (T:Tr Nat)(i:Nat):List Nat->Nat
 | []=>0
 | q::l=>bif tb (dI T i) q then Nat.succ (apb T i l)else 0
def group (T:Tr Nat)(bQ:List Nat)(s t mm:Nat):List Oper->Nat->List eL->List eL
 | [],_,r=>r
 | _::l,i,r=>bif tb s i&&!tb t i&&!tb mm i then .op i (apb T i bQ)::group T bQ s t mm l (Nat.succ i) r else group T bQ s t mm l (Nat.succ i) r
def F8 (s t mm:Nat):List Oper->Nat->List eL->List eL
 | [],_,r=>r
 | _::l,i,r=>bif tb s i&&!tb t i&&!tb mm i then .Di i::F8 s t mm l (Nat.succ i) r else F8 s t mm l (Nat.succ i) r
def acN:List Nat->List eL
 | []=>[]
 | q::l=>.iM q::acN l
def Qb (T:Tr Nat) (bQ fl:List Nat) (mm all:Nat) (ops:List Oper):List Nat->Nat->List eL
 | [],seen=>match fl with
  | []=>group T bQ all seen mm ops 0 []
  | q::l=>F8 all seen mm ops 0 (acN (q::l))
 | q::l,seen=>group T bQ (dI T q) seen mm ops 0 (.mod q::Qb T bQ fl mm all ops l (Nat.lor (Nat.lor seen (dI T q)) (Nat.shiftLeft 1 q)))
def Sq (T:Tr Nat)(q:Nat):List Nat->Bool
 | []=>true
 | x::l=>bif tb (dI T x) q then Sq T q l else false
def Pk (T:Tr Nat):List Nat->List Nat×List Nat
 | []=>([],[])
 | q :: l=>match Sq T q l with
  | true=>match Pk T l with
   | (a,b)=>(q::a,b)
  | false=>([],q::l)
def Ap:List Oper->Nat->List Nat
 | [],_=>[]
 | o::l,i=>bif aa6 o.op then i::Ap l (Nat.succ i)else Ap l (Nat.succ i)
def QK:List Nat->Nat
 | []=>0
 | q::l=>Nat.lor (Nat.shiftLeft 1 q) (QK l)
def NG (T:Tr Nat)(ops:List Oper):List eL:=
 match Pk T (Ap ops 0)with
 | (ch,fl)=>Qb T ch fl (QK (Ap ops 0)) (Nat.sub (Nat.shiftLeft 1 (dW ops 0)) 1) ops ch 0
def vX:List Oper->Nat->Tr Nat->Option (Tr Nat)
 | [],_,T=>some T
 | o :: l,i,T=>match o.dst with
  | none=>vX l (Nat.succ i) T
  | some d=>match T.get d with
   | none=>vX l (Nat.succ i) (T.put d (some i))
   | some _=>none
def Eu:List Edge->Nat->Bool
 | [],_=>true
 | e::l,i=>match Region.binds .any e with
  | true=>bif Nat.blt e.on i then Eu l i else false
  | false=>Eu l i
def Kp:List Oper->Nat->Bool
 | [],_=>true
 | o::l,i=>Eu o.after.toList i&&Kp l (Nat.succ i)
def xS:List Oper->Tr Nat->Tr Nat
 | [],T=>T
 | o :: l,T=>match o.op with
  | .assign _=>match o.dst with
   | some d=>xS l (T.put d (some 0))
   | none=>xS l T
  | _=>xS l T
def gS (T D E:Tr Nat) (i seen:Nat):List Nat->Bool
 | []=>true
 | t :: l=>match D.get t with
  | none=>gS T D E i seen l
  | some p=>match E.get t with
   | none=>bif tb (dI T i) p then gS T D E i seen l else false
   | some _=>bif tb (dI T p) i&&!tb seen p then gS T D E i seen l else false
def DZ (m:Nat):List Nat->Bool
 | []=>true
 | p::l=>bif tb m p then DZ m l else false
def pX (T D E:Tr Nat) (ops:Array Oper) (bQ:List Nat):List eL->(seen:Nat)->Bool
 | [],_=>true
 | .iM i::l,seen=>match ops[i]? with
  | some o=>gS T D E i seen (slotsOf ops o)&&(match bQ with
   | []=>true
   | q::_=>tb (dI T i) q)&&pX T D E ops bQ l (Nat.lor seen (Nat.shiftLeft 1 i))
  | none=>false
 | _::_,_=>false
def lC (T D E:Tr Nat) (ops:Array Oper):List eL->(bQ jO bad:List Nat)->(seen:Nat)->Bool
 | [],_,_,_,_=>true
 | .iM i::l,bQ,_,bad,seen=>match bad with
  | []=>pX T D E ops bQ (.iM i::l) seen
  | _::_=>false
 | .Di i::l,bQ,jO,bad,seen=>match ops[i]? with
  | some o=>gS T D E i seen (slotsOf ops o)&&lC T D E ops l bQ (i::jO) bad (Nat.lor seen (Nat.shiftLeft 1 i))
  | none=>false
 | .op i e::l,bQ,jO,bad,seen=>match ops[i]? with
  | some o=>gS T D E i seen (slotsOf ops o)&&(match e with
   | 0=>true
   | _=>Nat.ble e (dW bQ 0)&&jK (nth bQ (Nat.sub (dW bQ 0) e)) false (λ q=>tb (dI T i) q))&&lC T D E ops l bQ (i::jO) (i::bad) (Nat.lor seen (Nat.shiftLeft 1 i))
  | none=>false
 | .mod i::l,bQ,jO,_,seen=>match ops[i]? with
  | some o=>gS T D E i seen (slotsOf ops o)&&DZ (dI T i) jO&&(match bQ with
   | []=>true
   | q::_=>tb (dI T i) q)&&lC T D E ops l (i::bQ) [] [] (Nat.lor seen (Nat.shiftLeft 1 i))
  | none=>false
def idxOf:eL->Nat
 | .op i _=>i
 | .mod i=>i
 | .Di i=>i
 | .iM i=>i
def ve:List eL->Nat->Option Nat
 | [],s=>some s
 | x::l,s=>bif tb s (idxOf x)then none else ve l (Nat.lor s (Nat.shiftLeft 1 (idxOf x)))
def DR:Op->Bool
 | .assign _=>true
 | _=>false
def gW:List Oper->List Nat
 | []=>[]
 | o :: l=>match DR o.op with
  | true=>gW l
  | false=>match o.dst with
   | some d=>d::gW l
   | none=>gW l
def ui (T:Tr Nat) (ops:Array Oper) (pl:List eL):Bool:=
 Kp ops.toList 0&&(match vX ops.toList 0 .nil with
  | some D=>lC T D (xS ops.toList .nil) ops pl [] [] [] 0
  | none=>false)&&(match ve pl 0 with
  | some s=>Nat.beq s (Nat.sub (Nat.shiftLeft 1 (dW ops.toList 0)) 1)
  | none=>false)
def Z9 (P:Program)(nt:Nat)(ops:Array Oper)(pl:List eL)(ok:Bool):K:=match ok with
 | true=>.mk <| λ ce F H n m=>(fO P nt ops pl 0).f ce (gX (gW ops.toList) F) H [H] n m
 | false=>gF
def J6 (P:Program)(nt:Nat)(ops:Array Oper)(T:Tr Nat):K:=Z9 P nt ops (NG T ops.toList) (ui T ops (NG T ops.toList))
def yN:Code->Option (Operand×Tmp×Array Oper×List Oper)
 | .region _ ops false=>match ops.toList with
  | o::os=>match o.op,o.guard,o.dst with
   | .next x false,none,some d=>some (x,d,ops,os)
   | _,_,_=>none
  | []=>none
 | _=>none
def aaZ (_:Program)(_:Nat)(_:Operand)(_:Tmp)(_:Array Oper)(_:List Oper)(_:K):K:=gF
def AE:Op->Bool
 | .defer _=>true
 | _=>false
def dX:List Oper->Bool
 | []=>false
 | o::l=>AE o.op||dX l
def comp (P:Program) (nt:Nat) (rd:Bool):Code->K
 | .skip=>Eg
 | .region _ ops d=>bif d then (bif P.follows .mixedOrders then J6 P nt ops (k_ ops.toList 0 .nil)else gF)else (bif rd&&dX ops.toList then gF else qZ P nt ops ops.toList)
 | .seq a b=>Fu (comp P nt rd a) (comp P nt rd b)
 | .cond c a b=>match dM c with
  | some x=>zb x (comp P nt rd a) (comp P nt rd b)
  | none=>gF
 | .block id b=>sK id (comp P nt rd b)
 | .loop (.seq a rest)=>match yN a with
  | some (x,d,ops,os)=>bif rd&&dX os then gF else aaZ P nt x d ops os (comp P nt rd rest)
  | none=>yO (Fu (comp P nt rd a) (comp P nt rd rest))
 | .loop b=>yO (comp P nt rd b)
 | .exit id=>J3 id
 | .ret=>Z6
 | .scope b=>comp P nt rd b
 | .label _=>Eg
 | .rangeFunc f ps a b=>match dM f with
  | some x=>bif rd then gF else zX nt x ps.toList a b
  | none=>gF
 | _=>gF
def ji (P:Program):List ResultVar->Option (List (Fr->Hp->Option AV))
 | []=>some []
 | .tmp t::r=>(ji P r).map ((λ F _=>(aC t).f F)::·)
 | .cell a t::r=>match ji P r,gK P t,cT P t with
  | some l,some true,some k=>some ((λ F H=>match (aC a).f F with
   | some v=>match eo k v H with
    | .val v=>some v
    | _=>none
   | none=>none)::l)
  | some l,some false,some _=>some ((λ F H=>match (aC a).f F with
   | some v=>match eT v H with
    | .val v=>some v
    | _=>none
   | none=>none)::l)
  | _,_,_=>none
def ux (F:Fr) (H:Hp):List (Fr->Hp->Option AV)->Option (List AV)
 | []=>some []
 | x :: r=>match x F H with
  | some v=>match ux F H r with
   | some l=>some (v::l)
   | none=>none
  | none=>none
def t_:List AV->AV
 | [v]=>v
 | l=>.bg l
def ez:List Dm->Hp->Option Hp
 | [],H=>some H
 | .cu m::r,H=>match H.get m with
  | some .kX=>ez r (H.put m none)
  | _=>none
 | .fn _ _::_,_=>none
def Jw:UM->UM
 | .pE _ true=>.ret
 | u=>u
def jI (ce:Ce):List Dm->UM->Hp->Nat->OQ
 | [],u,H,n=>.mk u H n
 | .cu b::r,u,H,n=>match H.get b with
  | some .kX=>jI ce r u (H.put b none) n
  | _=>.fail
 | .fn f args::r,u,H,n=>match ce.dcall f args u H n with
  | .mk u' H' n'=>jI ce r (Jw u') H' n'
  | .fail=>.fail
def kC (rs:List (Fr->Hp->Option AV)) (F:Fr):OQ->iq
 | .mk .ret H n=>match ux F H rs with
  | some vs=>.mk (t_ vs) H n
  | none=>.fail
 | .mk (.pE v false) H n=>.pE v H n
 | _=>.fail
def vq (ce:Ce)(rs:List (Fr->Hp->Option AV)):Kv->iq
 | .mk .normal F H n m=>kC rs F (jI ce m .ret H n)
 | .mk .ret F H n m=>kC rs F (jI ce m .ret H n)
 | .mk (.panic v) F H n m=>kC rs F (jI ce m (.pE v false) H n)
 | .mk (.exit _) _ _ _ _=>.fail
 | .fail=>.fail
inductive akC where
 | fail
 | mk (o:mF) (F:Fr) (H:Hp) (n:Nat) (u:UM)
structure KS where
 f:Ce->Fr->Hp->Nat->UM->akC
def JN (k:K):KS:=.mk <| λ ce F H n u=>match k.f ce F H n []with
 | .mk o F' H' n' []=>.mk o F' H' n' u
 | _=>.fail
def amZ (a b:KS):KS:=.mk <| λ ce F H n u=>match a.f ce F H n u with
 | .mk .normal F' H' n' u'=>b.f ce F' H' n' u'
 | r=>r
def acT (g:G)(a b:KS):KS:=.mk <| λ ce F H n u=>match g.f F with
 | some (.bool true)=>a.f ce F H n u
 | some (.bool false)=>b.f ce F H n u
 | _=>.fail
def Eb:KS:=.mk <| λ _ _ _ _ _=>.fail
def awE:KS:=.mk <| λ _ F H n u=>.mk .normal F H n u
def opS (pd:Pd)(e:Eff)(next:KS):KS:=.mk <| λ ce F H n u=>match e F H n with
 | .fail=>.fail
 | .val v=>next.f ce (pd.f v F) H n u
 | .new v k=>next.f ce (pd.f v F) (H.put n (some k)) (Nat.succ n) u
 | .upd v b k=>next.f ce (pd.f v F) (H.put b (some k)) n u
 | .mv v b k=>next.f ce (pd.f v F) ((H.put b none).put n (some k)) (Nat.succ n) u
def ana (pd:Pd)(next:KS):KS:=.mk <| λ ce F H n u=>match u with
 | .pE v false=>next.f ce (pd.f v F) H n (.pE v true)
 | u=>next.f ce (pd.f (.ak .nilIface) F) H n u
def isRecover:Op->Bool
 | .call {callee:=.builtin .recover,args:=_,argTypes:=_}=>true
 | _=>false
def wy:List Oper->Bool
 | []=>false
 | o::l=>isRecover o.op||wy l
def kY (P : Program) (nt:Nat):List Oper->KS
 | []=>awE
 | o :: r=>match eS nt o.dst with
  | none=>Eb
  | some pd=>match o.guard with
   | some _=>Eb
   | none=>match isRecover o.op with
    | true=>ana pd (kY P nt r)
    | false=>match dN P o with
     | some e=>opS pd e (kY P nt r)
     | none=>Eb
def fN (P:Program) (nt:Nat):Code->KS
 | .seq a b=>amZ (fN P nt a) (fN P nt b)
 | .cond c a b=>match dM c with
  | some x=>acT x (fN P nt a) (fN P nt b)
  | none=>Eb
 | .region id ops false=>match wy ops.toList with
  | true=>kY P nt ops.toList
  | false=>JN (comp P nt false (.region id ops false))
 | c=>JN (comp P nt false c)
def Av (rs:List (Fr->Hp->Option AV)):akC->OQ
 | .mk .normal F H n u=>match ux F H rs with
  | some _=>.mk u H n
  | none=>.fail
 | .mk .ret F H n u=>match ux F H rs with
  | some _=>.mk u H n
  | none=>.fail
 | _=>.fail
structure AF where
 res:List (Fr->Hp->Option AV)
 code:K
 nt:Nat
def J7 (P:Program) (g:FuncId):Option AF:=match P.funcs[g]? with
 | some fn=>match fn.body with
  | some b => match fn.name == "runtime.NumGoroutine" with
   | true=>none
   | false=>match ji P fn.results.toList with
    | some r=>some {res:=r,code:=comp P fn.ntmps false b,nt:=fn.ntmps}
    | none=>none
  | none=>none
 | none=>none
structure AD where
 res:List (Fr->Hp->Option AV)
 code:KS
 nt:Nat
def Sa (P:Program) (g:FuncId):Option AD:=match P.funcs[g]? with
 | some fn=>match fn.body with
  | some b => match fn.name == "runtime.NumGoroutine" with
   | true=>none
   | false=>match ji P fn.results.toList with
    | some r=>some {res:=r,code:=fN P fn.ntmps b,nt:=fn.ntmps}
    | none=>none
  | none=>none
 | none=>none
def run (P:Program):Nat->Ce
 | 0=>{call:=λ _ _ _ _=>.fail,code:=λ _ _ _ _ _=>.fail,dcall:=λ _ _ _ _ _=>.fail}
 | f + 1 => {
   call:=λ g args H n=>match J7 P g with
    | some af=>match Nat.ble (dW args 0) af.nt with
     | true=>vq (run P f) af.res (af.code.f (run P f) (Tr.bO args 0 .nil) H n [])
     | false=>.fail
    | none=>.fail
   code:=λ nt c F H n=>(comp P nt true c).f (run P f) F H n []
   dcall:=λ g args u H n=>match Sa P g with
    | some af=>match Nat.ble (dW args 0) af.nt with
     | true=>Av af.res (af.code.f (run P f) (Tr.bO args 0 .nil) H n u)
     | false=>.fail
    | none=>.fail}
end Go.Abs
namespace Go.Abs
open List
abbrev Ph:=Nat->Option (Nat×Nat×Nat)
abbrev Da:=Nat->Option (Array Value)
abbrev Hf:=Nat->Option bI
abbrev Ff:=Nat->Option AV
mutual
inductive VR (φ:Ph)(D:Da):AV->Value->Prop
 | int (k n):VR φ D (.int k n) (.int k n)
 | bool (b):VR φ D (.bool b) (.bool b)
 | str (s:ByteArray) (l:List Nat):s.data.toList.map UInt8.toNat=l->VR φ D (.str l) (.string s)
 | ptr (b o cb co cz):φ b=some (cb,co,cz)->VR φ D (.ptr b o) (.pointer (some ⟨cb,co+o,none⟩))
 | sl (b o len sz cb co cz cap ad):φ b=some (cb,co,cz)->len<=cap->(0<cap->ad=⟨cb,co+o,none⟩/\co+o+cap*sz<=cz) ->
   VR φ D (.sl b o len sz) (.slice (some ad) len cap)
 | agg (cs l n):bW φ D cs l->cs.length=n->VR φ D (.agg cs n) (.agg ⟨l⟩)
 | bg (cs l):bW φ D cs l->VR φ D (.bg cs) (.tuple ⟨l⟩)
 | kV (t v x):VR φ D v x->VR φ D (.kV t v) (.iface t x)
 | fn (f a b x y):bW φ D a x->bW φ D b y->VR φ D (.fn f a b) (.func f ⟨x⟩ ⟨y⟩)
 | map (b cb co cz):φ b=some (cb,co,cz)->VR φ D (.map b) (.map (some cb))
 | ds (cs len sz cap cb co cells l):D cb=some cells->l=(cells.toList.drop co).take (len*sz)->cs.length=len*sz->bW φ D cs l->len<=cap ->
   VR φ D (.ds cs len sz) (.slice (some ⟨cb,co,none⟩) len cap)
 | rK (sz cap ad):VR φ D (.ds [] 0 sz) (.slice (some ad) 0 cap)
 | sC (sz):VR φ D (.ds [] 0 (sz+1)) (.slice none 0 0)
 | dp (cs cb co cells l):D cb=some cells->l=(cells.toList.drop co).take cs.length->bW φ D cs l->VR φ D (.dp cs) (.pointer (some ⟨cb,co,none⟩))
 | je (b cb co cz):φ b=some (cb,co,cz)->VR φ D (.je b) (.func (.yield cb) #[] #[])
 | ak (v):atom v=true->VR φ D (.ak v) v
inductive bW (φ:Ph)(D:Da):List AV->List Value->Prop
 | nil:bW φ D [] []
 | cons (v x vs xs):VR φ D v x->bW φ D vs xs->bW φ D (v::vs) (x::xs)
end
section
variable {φ φ':Ph}{D D':Da}
mutual
theorem VR.mono (hφ:∀b x,φ b=some x->φ' b=some x)(hD:∀c x,D c=some x->D' c=some x):∀ {v x},VR φ D v x->VR φ' D' v x
 | _,_,.int _ _=>.int _ _
 | _,_,.bool _=>.bool _
 | _,_,.str _ _ h=>.str _ _ h
 | _,_,.ptr _ _ _ _ _ h=>.ptr _ _ _ _ _ (hφ _ _ h)
 | _,_,.sl _ _ _ _ _ _ _ _ _ h a b=>.sl _ _ _ _ _ _ _ _ _ (hφ _ _ h) a b
 | _,_,.agg _ _ _ h e=>.agg _ _ _ (bW.mono hφ hD h) e
 | _,_,.bg _ _ h=>.bg _ _ (bW.mono hφ hD h)
 | _,_,.kV _ _ _ h=>.kV _ _ _ (VR.mono hφ hD h)
 | _,_,.fn _ _ _ _ _ h k=>.fn _ _ _ _ _ (bW.mono hφ hD h) (bW.mono hφ hD k)
 | _,_,.map _ _ _ _ h=>.map _ _ _ _ (hφ _ _ h)
 | _,_,.ds _ _ _ _ _ _ _ _ h a b c d=>.ds _ _ _ _ _ _ _ _ (hD _ _ h) a b (bW.mono hφ hD c) d
 | _,_,.rK _ _ _=>.rK _ _ _
 | _,_,.sC _=>.sC _
 | _,_,.dp _ _ _ _ _ h a b=>.dp _ _ _ _ _ (hD _ _ h) a (bW.mono hφ hD b)
 | _,_,.je _ _ _ _ h=>.je _ _ _ _ (hφ _ _ h)
 | _,_,.ak _ h=>.ak _ h
theorem bW.mono (hφ:∀b x,φ b=some x->φ' b=some x)(hD:∀c x,D c=some x->D' c=some x):∀ {v x},bW φ D v x->bW φ' D' v x
 | _,_,.nil=>.nil
 | _,_,.cons _ _ _ _ h k=>.cons _ _ _ _ (VR.mono hφ hD h) (bW.mono hφ hD k)
end
theorem bW.length:∀ {vs xs},bW φ D vs xs->vs.length=xs.length
 | _,_,.nil=>rfl
 | _,_,.cons _ _ _ _ _ k=>by simp[bW.length k]
theorem bW.get {vs:List AV}{xs:List Value}(h:bW φ D vs xs):∀ {i:Nat}{v:AV},vs[i]?=some v->∃x,xs[i]?=some x/\VR φ D v x:=by
 induction vs generalizing xs with
 | nil=>intro i v hv;simp at hv
 | cons a r ih =>
  cases h with
  | cons _ x _ xs h1 h2 =>
   intro i v hv
   cases i with
   | zero=>simp at hv;subst hv;exact⟨x,rfl,h1⟩
   | succ i=>simp at hv;simpa using ih h2 hv
theorem bW.mW:∀ {vs:List AV}{xs:List Value},vs.length=xs.length->(∀(i:Nat)(v:AV),vs[i]?=some v->∃x,xs[i]?=some x/\VR φ D v x)->bW φ D vs xs
 | [],[],_,_=>.nil
 | [],_::_,h,_=>by simp at h
 | _::_,[],h,_=>by simp at h
 | v::vs,x::xs,h,hg=>by
  obtain⟨y,hy,hv⟩:=hg 0 v rfl;simp at hy;subst hy;exact .cons _ _ _ _ hv (bW.mW (by simpa using h) λ i u hu=>hg (i+1) u (by simpa using hu))
theorem bW.append {a b x y}(h:bW φ D a x)(k:bW φ D b y):bW φ D (a++b) (x++y):=by
 induction a generalizing x with
 | nil=>cases h;simpa using k
 | cons v r ih=>cases h with
  | cons _ u _ us h1 h2=>exact .cons _ _ _ _ h1 (ih h2)
theorem bW.drop {a x}(n:Nat)(h:bW φ D a x):bW φ D (a.drop n) (x.drop n):=by
 induction n generalizing a x with
 | zero=>simpa using h
 | succ n ih=>cases h with
  | nil=>exact .nil
  | cons _ _ _ _ _ h2=>simpa using ih h2
theorem bW.take {a x}(n:Nat)(h:bW φ D a x):bW φ D (a.take n) (x.take n):=by
 induction n generalizing a x with
 | zero=>simpa using bW.nil
 | succ n ih=>cases h with
  | nil=>exact .nil
  | cons _ _ _ _ h1 h2=>simpa using bW.cons _ _ _ _ h1 (ih h2)
def dO:Value->Bool
 | .agg _ | .tuple _=>false
 | _=>true
theorem EA {x:Value}(h:atom x=true):dO x=true:=by
 cases x<;>simp_all [atom,dO]
theorem cells_one {x:Value}(h:dO x=true):x.cells.toList=[x]:=by
 cases x<;>simp_all [dO,Value.cells]
theorem VR.cells {v x}(h:VR φ D v x):bW φ D v.cells x.cells.toList:=by
 cases h with
 | agg _ _ _ h _=>exact h
 | ak _ hv=>rw[cells_one (EA hv)];exact .cons _ _ _ _ (.ak _ hv) .nil
 | rK=>exact .cons _ _ _ _ (.rK _ _ _) .nil
 | sC=>exact .cons _ _ _ _ (.sC _) .nil
 | _=>exact .cons _ _ _ _ (by constructor<;>assumption) .nil
theorem VR.len {v x}(h:VR φ D v x):v.len=v.cells.length:=by
 cases h with
 | agg _ _ _ _ h=>exact h.symm
 | _=>rfl
theorem VR.one {v x}(h:VR φ D v x)(ho:v.one=true):dO x=true:=by
 cases h with
 | ak _ hv=>exact EA hv
 | agg=>simp[AV.one]at ho
 | bg=>simp[AV.one]at ho
 | _=>rfl
end
def fW:mF->Option Code
 | .normal=>none
 | .exit i=>some (.exit i)
 | .ret=>some .ret
 | .panic _=>none
def yX:List (IntKind×Int)->List Value
 | []=>[]
 | (k,n)::r=>.int k n::yX r
def GD (g:Nat):Option (Array Value):=match ajL g with
 | []=>aoO g
 | a::r=>some ⟨yX (a::r)⟩
def GB (D:Da):Prop:=∀c x,GD c=some x->D c=some x
theorem GB.mono {D D':Da}(hD:∀c x,D c=some x->D' c=some x)(h:GB D):GB D':=λ c x hx=>hD c x (h c x hx)
theorem yV {φ:Ph}{D:Da}:∀l:List (IntKind×Int),bW φ D (AR l) (yX l)
 | []=>.nil
 | (_,_)::r=>.cons _ _ _ _ (.int _ _) (yV r)
theorem yW:∀l:List (IntKind×Int),(AR l).length=(yX l).length
 | []=>rfl
 | (_,_)::r=>congrArg Nat.succ (yW r)
theorem ajM {φ:Ph}{D:Da}(hD:GB D){g:Nat}{l:List AV}(h:gAv g=some l):VR φ D (.dp l) (.pointer (some ⟨g,0,none⟩)):=by
 unfold gAv at h
 split at h
 ·cases h
 rename_i a r hg;injection h with h;subst h;refine .dp _ _ _ ⟨yX (a::r)⟩ (yX (a::r)) (hD g _ (by unfold GD;rw[hg])) ?_ (yV (a::r));rw[yW,drop_zero];exact(take_length ..).symm
def FR (φ:Ph)(D:Da)(F:Ff)(tmps:Array Value):Prop:=(∀t v,F t=some v->∃x,tmps[t]?=some x/\VR φ D v x)/\GB D
inductive sZ (φ:Ph)(D:Da):List (AV×AV×Nat)->List MapEntry->Prop
 | nil:sZ φ D [] []
 | cons (k v b x y es l):VR φ D k x->VR φ D v y->sZ φ D es l->sZ φ D ((k,v,b)::es) (⟨x,y,b⟩::l)
def Nfr (k:Nat)(fr:Nat×Nat):Prop:=fr.1=fr.2∨k<=fr.1
theorem Nfr.at {k:Nat}{fr:Nat×Nat}(h:Nfr k fr):∀i,i<k->¬(fr.1<=i/\i<fr.2):=by
 intro i hi h2;unfold Nfr at h;omega
def iT (φ:Ph)(D:Da)(w:World)(p:Nat×Nat×Nat):bI->Prop
 | .cells u z bs t=>∃c e fr,w.heap[p.1]?=some (.cells c e fr)/\c.size=p.2.2/\Nfr c.size fr /\
   (∀i v,fY u z bs t i=some v->∃x,c[p.2.1+i]?=some x/\VR φ D v x)/\(t=.nil->z=[]->bs.length=u)/\p.2.1+u<=p.2.2
 | .map es OV=>∃zg,w.heap[p.1]?=some (.map zg OV)/\sZ φ D es zg.toList
 | .loop st j nt F ps a b=>∃(r:Loop),w.heap[p.1]?=some (.loop r)/\r.state=st/\r.pending=fW j/\r.tmps.size=nt/\FR φ D F.get r.tmps/\r.params.toList=ps/\r.assign=a/\r.body=b
 | .kX=>w.heap[p.1]?=some (.deferred (some []))
 | .iter m since seen last=>p.2.1=0/\∃cm:Option Nat,w.heap[p.1]?=some (.mapIter cm since ⟨seen⟩ last)/\(match m with
   | none=>cm=none
   | some b=>∃cb co cz,φ b=some (cb,co,cz)/\cm=some cb)
theorem FR.mono {φ φ' D D' F tmps}(hφ:∀b x,φ b=some x->φ' b=some x)(hD:∀c x,D c=some x->D' c=some x)(h:FR φ D F tmps):FR φ' D' F tmps:=
 ⟨λ t v hv=>let ⟨x,a,b⟩:=h.1 t v hv;⟨x,a,b.mono hφ hD⟩,h.2.mono hD⟩
theorem sZ.mono {φ φ' D D'}(hφ:∀b x,φ b=some x->φ' b=some x)(hD:∀c x,D c=some x->D' c=some x):∀ {es l},sZ φ D es l->sZ φ' D' es l
 | _,_,.nil=>.nil
 | _,_,.cons _ _ _ _ _ _ _ h k r=>.cons _ _ _ _ _ _ _ (h.mono hφ hD) (k.mono hφ hD) (sZ.mono hφ hD r)
theorem iT.mono {φ φ' D D' w w' p k}(hφ:∀b x,φ b=some x->φ' b=some x)(hD:∀c x,D c=some x->D' c=some x)
  (hw:w'.heap[p.1]?=w.heap[p.1]?)(h:iT φ D w p k):iT φ' D' w' p k:=by
 cases k with
 | cells u z bs t =>
  obtain⟨c,e,fr,h1,h2,h3,h4,h5⟩:=h;exact⟨c,e,fr,hw.trans h1,h2,h3,λ i v hv=>let ⟨x,a,b⟩:=h4 i v hv;⟨x,a,b.mono hφ hD⟩,h5⟩
 | map es OV=>obtain⟨zg,h1,h2⟩:=h;exact⟨zg,hw.trans h1,h2.mono hφ hD⟩
 | loop st j nt F ps a b =>
  obtain⟨r,h1,h2,h3,h4,h5,h6⟩:=h;exact⟨r,hw.trans h1,h2,h3,h4,h5.mono hφ hD,h6⟩
 | kX=>exact hw.trans h
 | iter m since seen last =>
  obtain⟨h0,cm,h1,h2⟩:=h;refine⟨h0,cm,hw.trans h1,?_⟩
  cases m with
  | none=>exact h2
  | some b=>obtain⟨cb,co,cz,h3,h4⟩:=h2;exact⟨cb,co,cz,hφ _ _ h3,h4⟩
def Dat (D:Da)(w:World):Prop:=(∀c x,D c=some x->∃e fr,w.heap[c]?=some (.cells x e fr))/\GB D
structure Rel (φ:Ph)(D:Da)(h:Hf)(w:World):Prop where
 blk:∀b k,h b=some k->∃p,φ b=some p/\p.1<w.heap.size/\iT φ D w p k
 inj:∀b c p q,h b≠none->h c≠none->φ b=some p->φ c=some q->p.1=q.1->b=c
 sep:∀b p,h b≠none->φ b=some p->D p.1=none
 dat:Dat D w
structure Ext (φ:Ph)(D:Da)(h:Hf)(w:World)(n:Nat)(φ':Ph)(D':Da)(h':Hf)(w':World)(n':Nat):Prop where
 le:n<=n'
 phi:∀b x,φ b=some x->φ' b=some x
 new:∀b,φ b=none->φ' b≠none->n<=b/\b<n'
 dat:∀c x,D c=some x->D' c=some x
 size:w.heap.size<=w'.heap.size
 keep:∀c,c<w.heap.size->(∀b p,h b≠none->φ b=some p->p.1≠c)->w'.heap[c]?=w.heap[c]?
 live:∀b p,h' b≠none->φ' b=some p->w.heap.size<=p.1∨∃b0 p0,h b0≠none/\φ b0=some p0/\p0.1=p.1
 jz:∀c,D' c≠none->D c≠none∨w.heap.size<=c∨∃b0 p0,h b0≠none/\φ b0=some p0/\p0.1=c
 hid:∀b,h' b≠none->h b≠none∨(n<=b/\b<n')
 os:w'.os=w.os
 out:w'.output=w.output
def cB (φ:Ph)(n n':Nat):Prop:=∀b,n<=b->b<n'->φ b=none
theorem Ext.refl (φ:Ph)(D:Da)(h:Hf)(w:World)(n:Nat):Ext φ D h w n φ D h w n:=
 ⟨Nat.le_refl _,λ _ _ h=>h,λ _ h k=>absurd h k,λ _ _ h=>h,Nat.le_refl _,λ _ _ _=>rfl,λ _ _ a b=>.inr ⟨_,_,a,b,rfl⟩,λ _ h=>.inl h,λ _ h=>.inl h,rfl,rfl⟩
theorem Ext.trans {φ D h w n φ1 D1 h1 w1 n1 φ2 D2 h2 w2 n2}(a:Ext φ D h w n φ1 D1 h1 w1 n1)(b:Ext φ1 D1 h1 w1 n1 φ2 D2 h2 w2 n2):Ext φ D h w n φ2 D2 h2 w2 n2 where
 le:=Nat.le_trans a.le b.le
 phi:=λ c x hx=>b.phi _ _ (a.phi _ _ hx)
 new:=λ c h0 h2=>by
  have ha:=a.le;have hb:=b.le
  cases h1:φ1 c with
  | none=>have:=b.new c h1 h2;omega
  | some x=>have:=a.new c h0 (by simp[h1]);omega
 dat:=λ c x hx=>b.dat _ _ (a.dat _ _ hx)
 size:=Nat.le_trans a.size b.size
 keep:=λ c hc hn=>by
  have hc1:=Nat.lt_of_lt_of_le hc a.size;rw[b.keep c hc1 λ d p hd hp e=>?_,a.keep c hc hn]
  rcases a.live d p hd hp with h | ⟨b0,p0,x,y,z⟩
  ·omega
  exact hn b0 p0 x y (z.trans e)
 live:=λ c p hc hp=>by
  have ha:=a.size
  rcases b.live c p hc hp with h | ⟨b0,p0,x,y,z⟩
  ·exact .inl (by omega)
  rcases a.live b0 p0 x y with h | ⟨b1,p1,x1,y1,z1⟩
  ·exact .inl (by omega)
  exact .inr ⟨b1,p1,x1,y1,z1.trans z⟩
 jz:=λ c hc=>by
  have ha:=a.size
  rcases b.jz c hc with h | h | ⟨b0,p0,x,y,z⟩
  ·exact a.jz c h
  ·exact .inr (.inl (by omega))
  rcases a.live b0 p0 x y with h | ⟨b1,p1,x1,y1,z1⟩
  ·exact .inr (.inl (by omega))
  exact .inr (.inr ⟨b1,p1,x1,y1,z1.trans z⟩)
 hid := λ c hc=>by
  have ha:=a.le;have hb:=b.le
  rcases b.hid c hc with h | h
  ·rcases a.hid c h with h | h
   ·exact .inl h
   exact .inr (by omega)
  exact .inr (by omega)
 os:=b.os.trans a.os
 out:=b.out.trans a.out
theorem cB.left {φ n n1 n2}(h:cB φ n n2)(h2:n1<=n2):cB φ n n1:=λ b x y=>h b x (by omega)
theorem cB.step {φ D h w n φ1 D1 h1 w1 n1 n2}(hf:cB φ n n2)(e:Ext φ D h w n φ1 D1 h1 w1 n1):cB φ1 n1 n2:=by
 intro b x y
 cases hb:φ1 b with
 | none=>rfl
 | some p =>
  have h0:=hf b (by have:=e.le;omega) y;have:=e.new b h0 (by simp[hb]);omega
def Hf.set (h:Hf)(b:Nat)(k:Option bI):Hf:=λ c=>if c=b then k else h c
def Ph.set (φ:Ph)(b:Nat)(p:Nat×Nat×Nat):Ph:=λ c=>if c=b then some p else φ c
def World.newObj (w:World)(o:Obj):World:={w with heap:=w.heap.push o}
def World.putObj (w:World)(c:Nat)(o:Obj):World:={w with heap:=w.heap.setIfInBounds c o}
theorem Ph.gT {φ:Ph}{n:Nat} {p}(hn:φ n=none):∀b x,φ b=some x->(φ.set n p) b=some x:=by
 intro b x hx;unfold Ph.set
 split
 ·subst b;simp[hn]at hx
 exact hx
theorem ly {φ D h w n}(hr:Rel φ D h w)(hf:cB φ n (n+1))(o:Obj)(cz:Nat)(k:bI)
  (hk:iT (φ.set n (w.heap.size,0,cz)) D (World.newObj w o) (w.heap.size,0,cz) k):
  Rel (φ.set n (w.heap.size,0,cz)) D (h.set n (some k)) (World.newObj w o) /\
   Ext φ D h w n (φ.set n (w.heap.size,0,cz)) D (h.set n (some k)) (World.newObj w o) (n+1):=by
 have hn:φ n=none:=hf n (Nat.le_refl _) (by omega);have hm:=Ph.gT (p:=(w.heap.size,0,cz)) hn
 have hhn:h n=none:=by
  cases hx:h n with
  | none=>rfl
  | some k=>obtain⟨p,hp,_⟩:=hr.blk n k hx;simp[hn]at hp
 have hold:∀c,c<w.heap.size->(World.newObj w o).heap[c]?=w.heap[c]?:=by
  intro c hc;simp[World.newObj,Array.getElem?_push,Nat.ne_of_lt hc]
 have hlt:∀b p,h b≠none->φ b=some p->p.1<w.heap.size:=by
  intro b p hb hp
  cases hx:h b with
  | none=>exact absurd hx hb
  | some k=>obtain⟨q,hq,hl,_⟩:=hr.blk b k hx;rw[hp]at hq;injection hq with hq;subst hq;exact hl
 have hdl:∀c x,D c=some x->c<w.heap.size:=by
  intro c x hx;obtain⟨e,fr,hh⟩:=hr.dat.1 c x hx;exact(Array.getElem?_eq_some_iff.1 hh).1
 refine⟨⟨?_,?_,?_,?_⟩,⟨by omega,hm,?_,λ _ _ h=>h,?_,?_,?_,λ _ h=>.inl h,?_,rfl,rfl⟩⟩
 ·intro b k' hb;unfold Hf.set at hb
  split at hb
  ·subst b;injection hb with hb;subst hb;exact⟨_,by simp[Ph.set],by simp[World.newObj],hk⟩
  obtain⟨p,hp,hl,hb'⟩:=hr.blk b k' hb;exact⟨p,hm _ _ hp,by simp[World.newObj];omega,hb'.mono hm (λ _ _ h=>h) (hold _ hl)⟩
 ·intro b c p q hb hc hp hq e;unfold Hf.set at hb hc;unfold Ph.set at hp hq
  by_cases e1:b=n<;>by_cases e2:c=n<;>simp[e1,e2]at hb hc hp hq ⊢
  ·have:=hlt c q hc hq;rw[<-hp]at e;simp at e;omega
  ·have:=hlt b p hb hp;rw[<-hq]at e;simp at e;omega
  exact hr.inj b c p q hb hc hp hq e
 ·intro b p hb hp;unfold Hf.set at hb;unfold Ph.set at hp
  by_cases e1:b=n<;>simp[e1]at hb hp
  ·rw[<-hp]
   cases hx:D w.heap.size with
   | none=>rfl
   | some x=>have:=hdl _ _ hx;omega
  exact hr.sep b p hb hp
 ·refine⟨λ c x hx=>?_,hr.dat.2⟩;obtain⟨e,fr,hh⟩:=hr.dat.1 c x hx;exact⟨e,fr,(hold c (hdl c x hx)).trans hh⟩
 ·intro b h0 h1;unfold Ph.set at h1
  by_cases e1:b=n
  ·omega
  simp[e1,h0]at h1
 ·simp[World.newObj]
 ·exact λ c hc _=>hold c hc
 ·intro b p hb hp;unfold Hf.set at hb;unfold Ph.set at hp
  by_cases e1:b=n<;>simp[e1]at hb hp
  ·exact .inl (by simp[<-hp])
  exact .inr ⟨b,p,hb,hp,rfl⟩
 intro b hb;unfold Hf.set at hb
 by_cases e1:b=n
 ·exact .inr (by omega)
 simp[e1]at hb;exact .inl hb
theorem Rel.block {φ D h w b k}(hr:Rel φ D h w)(hb:h b=some k) {p}(hp:φ b=some p):p.1<w.heap.size/\iT φ D w p k:=by
 obtain⟨q,hq,hl,hk⟩:=hr.blk b k hb;rw[hp]at hq;injection hq with hq;subst hq;exact⟨hl,hk⟩
theorem JB {φ D h w n b k p}(hr:Rel φ D h w)(hb:h b≠none)(hp:φ b=some p)(w':World)
  (hw:∀c,c≠p.1->w'.heap[c]?=w.heap[c]?)(hs:w'.heap.size=w.heap.size)(hos:w'.os=w.os)(hout:w'.output=w.output)
  (hk:iT φ D w' p k):Rel φ D (h.set b (some k)) w'/\Ext φ D h w n φ D (h.set b (some k)) w' n:=by
 have hlive:∀c,(h.set b (some k)) c≠none↔h c≠none:=by
  intro c;unfold Hf.set;by_cases e:c=b<;>simp[e,hb]
 refine⟨⟨?_,?_,?_,?_⟩,⟨Nat.le_refl _,λ _ _ h=>h,λ _ a c=>absurd a c,λ _ _ h=>h,by omega,?_,?_,λ _ h=>.inl h,?_,hos,hout⟩⟩
 ·intro c k' hc;unfold Hf.set at hc
  by_cases e:c=b
  ·simp[e]at hc;subst hc;subst e;refine⟨p,hp,?_,hk⟩
   cases hx:h c with
   | none=>exact absurd hx hb
   | some k0=>rw[hs];exact(hr.block hx hp).1
  simp[e]at hc;obtain⟨q,hq,hl,hk'⟩:=hr.blk c k' hc;exact⟨q,hq,by omega,hk'.mono (λ _ _ h=>h) (λ _ _ h=>h) (hw _ λ e'=>e (hr.inj c b q p (by simp[hc]) hb hq hp e'))⟩
 ·intro c d q r hc hd;exact hr.inj c d q r ((hlive c).1 hc) ((hlive d).1 hd)
 ·intro c q hc;exact hr.sep c q ((hlive c).1 hc)
 ·refine⟨λ c x hx=>?_,hr.dat.2⟩;obtain⟨e,fr,hh⟩:=hr.dat.1 c x hx;refine⟨e,fr,(hw c λ e'=>?_).trans hh⟩;have:=hr.sep b p hb hp;rw[<-e',hx]at this;cases this
 ·intro c _ hn;exact hw c λ e=>hn b p hb hp e.symm
 ·intro c q hc hq;exact .inr ⟨c,q,(hlive c).1 hc,hq,rfl⟩
 intro c hc;exact .inl ((hlive c).1 hc)
theorem Ps {φ D h w n b k p q}(hr:Rel φ D h w) (hf:cB φ n (n+1)) (hb:h b≠none) (hp:φ b=some p) (hq:q.1=p.1) (w':World)
  (hw:∀c,c≠p.1->w'.heap[c]?=w.heap[c]?)(hs:w'.heap.size=w.heap.size)(hos:w'.os=w.os)(hout:w'.output=w.output)
  (hk:iT (φ.set n q) D w' q k):
  Rel (φ.set n q) D ((h.set b none).set n (some k)) w'/\Ext φ D h w n (φ.set n q) D ((h.set b none).set n (some k)) w' (n+1):=by
 have hn:φ n=none:=hf n (Nat.le_refl _) (by omega);have hm:=Ph.gT (p:=q) hn
 have hhn:h n=none:=by
  cases hx:h n with
  | none=>rfl
  | some k=>obtain⟨p,hp,_⟩:=hr.blk n k hx;simp[hn]at hp
 have hbn:b≠n:=λ e=>by rw[e]at hb;exact hb hhn
 have hget:∀c,((h.set b none).set n (some k)) c=if c=n then some k else if c=b then none else h c:=λ c=>rfl
 refine⟨⟨?_,?_,?_,?_⟩,⟨by omega,hm,?_,λ _ _ h=>h,by omega,?_,?_,λ _ h=>.inl h,?_,hos,hout⟩⟩
 ·intro c k' hc;rw[hget]at hc
  by_cases e:c=n
  ·simp[e]at hc;subst hc;subst e;refine⟨q,by simp[Ph.set],?_,hk⟩
   cases hx:h b with
   | none=>exact absurd hx hb
   | some k0=>rw[hs,hq];exact(hr.block hx hp).1
  by_cases e2:c=b
  ·simp[e2]at hc;omega
  simp[e,e2]at hc;obtain⟨r,hr',hl,hk'⟩:=hr.blk c k' hc;exact⟨r,hm _ _ hr',by omega,hk'.mono hm (λ _ _ h=>h) (hw _ λ e'=>e2 (hr.inj c b r p (by simp[hc]) hb hr' hp e'))⟩
 ·intro c d r s hc hd hr' hs' e;rw[hget]at hc hd;unfold Ph.set at hr' hs'
  by_cases e1:c=n<;>by_cases e2:d=n<;>simp[e1,e2]at hc hd hr' hs' ⊢
  ·subst hr';have:=hr.inj b d p s hb hd.2 hp hs' (by rw[<-hq];exact e);omega
  ·subst hs';have:=hr.inj b c p r hb hc.2 hp hr' (by rw[<-hq];exact e.symm);omega
  exact hr.inj c d r s hc.2 hd.2 hr' hs' e
 ·intro c r hc hr';rw[hget]at hc;unfold Ph.set at hr'
  by_cases e1:c=n<;>simp[e1]at hc hr'
  ·subst hr';rw[hq];exact hr.sep b p hb hp
  exact hr.sep c r hc.2 hr'
 ·refine⟨λ c x hx=>?_,hr.dat.2⟩;obtain⟨e,fr,hh⟩:=hr.dat.1 c x hx;refine⟨e,fr,(hw c λ e'=>?_).trans hh⟩;have:=hr.sep b p hb hp;rw[<-e',hx]at this;cases this
 ·intro c h0 h1;unfold Ph.set at h1
  by_cases e1:c=n
  ·omega
  simp[e1,h0]at h1
 ·intro c _ hn';exact hw c λ e=>hn' b p hb hp e.symm
 ·intro c r hc hr';rw[hget]at hc;unfold Ph.set at hr'
  by_cases e1:c=n<;>simp[e1]at hc hr'
  ·subst hr';exact .inr ⟨b,p,hb,hp,hq.symm⟩
  exact .inr ⟨c,r,hc.2,hr',rfl⟩
 intro c hc;rw[hget]at hc
 by_cases e1:c=n
 ·exact .inr (by omega)
 simp[e1]at hc;exact .inl hc.2
theorem Pu {φ D h w n b}(hr:Rel φ D h w):Rel φ D (h.set b none) w/\Ext φ D h w n φ D (h.set b none) w n:=by
 have hl:∀c,(h.set b none) c≠none->h c≠none:=by
  intro c;unfold Hf.set;by_cases e:c=b<;>simp[e]
 refine⟨⟨?_,λ c d q r hc hd=>hr.inj c d q r (hl c hc) (hl d hd),λ c q hc=>hr.sep c q (hl c hc),hr.dat⟩,
  ⟨Nat.le_refl _,λ _ _ h=>h,λ _ a c=>absurd a c,λ _ _ h=>h,Nat.le_refl _,λ _ _ _=>rfl,λ c q hc hq=>.inr ⟨c,q,hl c hc,hq,rfl⟩,λ _ h=>.inl h,λ c hc=>.inl (hl c hc),rfl,rfl⟩⟩
 intro c k hc;unfold Hf.set at hc
 by_cases e:c=b
 ·simp[e]at hc
 simp[e]at hc;exact hr.blk c k hc
theorem Rel.congr {φ D h h' w}(hr:Rel φ D h w)(e:∀b,h' b=h b):Rel φ D h' w:=by
 have:h'=h:=funext e;rw[this];exact hr
end Go.Abs
namespace Go.Abs
open List
theorem ed {α:Type}(n:Nat)(k:Nat->α):iL n k=k n:=by cases n<;>rfl
theorem oq {α:Type}(n:Int)(k:Int->α):Ru n k=k n:=by
 cases n with
 | ofNat m=>exact ed m (λ m=>k (.ofNat m))
 | negSucc m=>exact ed m (λ m=>k (.negSucc m))
@[simp] theorem amc {α:Type}(a b:α):akq true a b=a:=rfl
@[simp] theorem akp {α:Type}(a b:α):akq false a b=b:=rfl
@[simp] theorem yH {α β:Type}(x:α)(d:β)(k:α->β):jK (some x) d k=k x:=rfl
@[simp] theorem alK {α β:Type}(d:β)(k:α->β):jK none d k=d:=rfl
namespace Tr
variable {α:Type}
@[simp] theorem get_nil (n:Nat):(Tr.nil:Tr α).get n=none:=rfl
theorem cM (v:Option α) (l r:Tr α) (n:Nat):(Tr.node v l r).get n =
  if n=0 then v else if (n - 1) % 2=0 then l.get ((n - 1) / 2)else r.get ((n - 1) / 2):=by
 show Bool.rec (motive:=λ _=>Option α) (Bool.rec (motive:=λ _=>Option α) (r.get ((n - 1) / 2)) (l.get ((n - 1) / 2)) (Nat.beq ((n - 1) % 2) 0)) v (Nat.beq n 0)=_
 by_cases h:n=0
 ·subst h;rfl
 have h1:Nat.beq n 0=false:=by
  cases hb:Nat.beq n 0 with
  | false=>rfl
  | true=>exact absurd (Nat.eq_of_beq_eq_true hb) h
 rw[h1,if_neg h]
 by_cases h2:(n - 1) % 2=0
 ·rw[if_pos h2];have h3:Nat.beq ((n - 1) % 2) 0=true:=by rw[h2];rfl
  rw[h3]
 rw[if_neg h2]
 have h3:Nat.beq ((n - 1) % 2) 0=false:=by
  cases hb:Nat.beq ((n - 1) % 2) 0 with
  | false=>rfl
  | true=>exact absurd (Nat.eq_of_beq_eq_true hb) h2
 rw[h3]
theorem C8 (f n:Nat) (v:Option α):single (f+1) n v =
  if n=0 then .node v .nil .nil else if (n - 1) % 2=0 then .node none (single f ((n - 1) / 2) v) .nil else .node none .nil (single f ((n - 1) / 2) v):=by
 show Bool.rec (motive:=λ _=>Tr α) (Bool.rec (motive:=λ _=>Tr α) (.node none .nil (single f ((n - 1) / 2) v)) (.node none (single f ((n - 1) / 2) v) .nil) (Nat.beq ((n - 1) % 2) 0)) (.node v .nil .nil) (Nat.beq n 0)=_
 by_cases h:n=0
 ·subst h;rfl
 have h1:Nat.beq n 0=false:=by
  cases hb:Nat.beq n 0 with
  | false=>rfl
  | true=>exact absurd (Nat.eq_of_beq_eq_true hb) h
 rw[h1,if_neg h]
 by_cases h2:(n - 1) % 2=0
 ·rw[if_pos h2,show Nat.beq ((n - 1) % 2) 0=true by rw[h2];rfl]
 rw[if_neg h2]
 have h3:Nat.beq ((n - 1) % 2) 0=false:=by
  cases hb:Nat.beq ((n - 1) % 2) 0 with
  | false=>rfl
  | true=>exact absurd (Nat.eq_of_beq_eq_true hb) h2
 rw[h3]
theorem P' (x:Option α) (l r:Tr α) (n:Nat) (v:Option α):(Tr.node x l r).put n v =
  if n=0 then .node v l r else if (n - 1) % 2=0 then .node x (l.put ((n - 1) / 2) v) r else .node x l (r.put ((n - 1) / 2) v):=by
 show Bool.rec (motive:=λ _=>Tr α) (Bool.rec (motive:=λ _=>Tr α) (.node x l (r.put ((n - 1) / 2) v)) (.node x (l.put ((n - 1) / 2) v) r) (Nat.beq ((n - 1) % 2) 0)) (.node v l r) (Nat.beq n 0)=_
 by_cases h:n=0
 ·subst h;rfl
 have h1:Nat.beq n 0=false:=by
  cases hb:Nat.beq n 0 with
  | false=>rfl
  | true=>exact absurd (Nat.eq_of_beq_eq_true hb) h
 rw[h1,if_neg h]
 by_cases h2:(n - 1) % 2=0
 ·rw[if_pos h2,show Nat.beq ((n - 1) % 2) 0=true by rw[h2];rfl]
 rw[if_neg h2]
 have h3:Nat.beq ((n - 1) % 2) 0=false:=by
  cases hb:Nat.beq ((n - 1) % 2) 0 with
  | false=>rfl
  | true=>exact absurd (Nat.eq_of_beq_eq_true hb) h2
 rw[h3]
theorem nZ {n m:Nat}(hn:n≠0)(hm:m≠0)(h:(n - 1) % 2=(m - 1) % 2)(e:(n - 1) / 2=(m - 1) / 2):n=m:=by omega
theorem pU:∀(f n m:Nat) (v:Option α),n<f->(single f n v).get m=if m=n then v else none
 | 0,n,m,v,h=>by omega
 | f + 1,n,m,v,h=>by
  rw[C8]
  by_cases hn:n=0
  ·subst hn;rw[if_pos rfl,cM]
   by_cases hm:m=0
   ·simp[hm]
   simp[hm]
  rw[if_neg hn];have hlt:(n - 1) / 2<f:=by omega
  by_cases h2:(n - 1) % 2=0
  ·rw[if_pos h2,cM]
   by_cases hm:m=0
   ·rw[if_pos hm,if_neg (by omega)]
   rw[if_neg hm]
   by_cases h3:(m - 1) % 2=0
   ·rw[if_pos h3,pU f _ _ v hlt]
    by_cases e:m=n
    ·subst e;simp
    rw[if_neg e,if_neg (λ e'=>e (nZ hm hn (by omega) e'))]
   rw[if_neg h3,if_neg (λ e=>h3 (by subst e;exact h2))];rfl
  rw[if_neg h2,cM]
  by_cases hm:m=0
  ·rw[if_pos hm,if_neg (by omega)]
  rw[if_neg hm]
  by_cases h3:(m - 1) % 2=0
  ·rw[if_pos h3,if_neg (λ e=>h2 (by subst e;exact h3))];rfl
  rw[if_neg h3,pU f _ _ v hlt]
  by_cases e:m=n
  ·subst e;simp
  rw[if_neg e,if_neg (λ e'=>e (nZ hm hn (by omega) e'))]
theorem get_put (t:Tr α):∀(n m:Nat) (v:Option α),(t.put n v).get m=if m=n then v else t.get m:=by
 induction t with
 | nil=>intro n m v;show (single (n+1) n v).get m=_;rw[pU _ _ _ _ (Nat.lt_succ_self n)];rfl
 | node x l r il ir =>
  intro n m v;rw[P']
  by_cases hn:n=0
  ·subst hn;rw[if_pos rfl,cM,cM]
   by_cases hm:m=0<;>simp[hm]
  rw[if_neg hn]
  by_cases h2:(n - 1) % 2=0
  ·rw[if_pos h2,cM,cM]
   by_cases hm:m=0
   ·rw[if_pos hm,if_pos hm,if_neg (by omega)]
   rw[if_neg hm,if_neg hm]
   by_cases h3:(m - 1) % 2=0
   ·rw[if_pos h3,if_pos h3,il]
    by_cases e:m=n
    ·subst e;simp
    rw[if_neg e,if_neg (λ e'=>e (nZ hm hn (by omega) e'))]
   rw[if_neg h3,if_neg h3,if_neg (λ e=>h3 (by subst e;exact h2))]
  rw[if_neg h2,cM,cM]
  by_cases hm:m=0
  ·rw[if_pos hm,if_pos hm,if_neg (by omega)]
  rw[if_neg hm,if_neg hm]
  by_cases h3:(m - 1) % 2=0
  ·rw[if_pos h3,if_pos h3,if_neg (λ e=>h2 (by subst e;exact h3))]
  rw[if_neg h3,if_neg h3,ir]
  by_cases e:m=n
  ·subst e;simp
  rw[if_neg e,if_neg (λ e'=>e (nZ hm hn (by omega) e'))]
theorem AQ:∀(f n:Nat) (t:Tr α),n<f->(abd f n).f t=t.get n
 | 0,n,t,h=>by omega
 | f + 1,n,t,h=>by
  show (Bool.rec (motive:=λ _=>Gt α) (Bool.rec (motive:=λ _=>Gt α) ⟨goR (abd f ((n - 1) / 2))⟩ ⟨goL (abd f ((n - 1) / 2))⟩ (Nat.beq ((n - 1) % 2) 0)) ⟨hd⟩ (Nat.beq n 0):Gt α).f t=_
  by_cases hn:n=0
  ·subst hn
   cases t with
   | nil=>rfl
   | node v l r=>rfl
  have h1:Nat.beq n 0=false:=by
   cases hb:Nat.beq n 0 with
   | false=>rfl
   | true=>exact absurd (Nat.eq_of_beq_eq_true hb) hn
  rw[h1];have hlt:(n - 1) / 2<f:=by omega
  by_cases h2:(n - 1) % 2=0
  ·rw[show Nat.beq ((n - 1) % 2) 0=true by rw[h2];rfl]
   cases t with
   | nil=>rfl
   | node v l r=>rw[cM,if_neg hn,if_pos h2];exact AQ f _ l hlt
  have h3:Nat.beq ((n - 1) % 2) 0=false:=by
   cases hb:Nat.beq ((n - 1) % 2) 0 with
   | false=>rfl
   | true=>exact absurd (Nat.eq_of_beq_eq_true hb) h2
  rw[h3]
  cases t with
  | nil=>rfl
  | node v l r=>rw[cM,if_neg hn,if_neg h2];exact AQ f _ r hlt
theorem iX:∀(f n:Nat) (v:Option α) (t:Tr α) (m:Nat),n<f->((uZ f n).f v t).get m=if m=n then v else t.get m
 | 0,n,v,t,m,h=>by omega
 | f + 1, n, v,t,m,h=>by
  show ((Bool.rec (motive:=λ _=>Pt α) (Bool.rec (motive:=λ _=>Pt α) ⟨pR (uZ f ((n - 1) / 2))⟩ ⟨pL (uZ f ((n - 1) / 2))⟩ (Nat.beq ((n - 1) % 2) 0)) ⟨phd⟩ (Nat.beq n 0):Pt α).f v t).get m=_
  by_cases hn:n=0
  ·subst hn
   cases t with
   | nil=>show (Tr.node v .nil .nil).get m=_;rw[cM];by_cases hm:m=0<;>simp[hm]
   | node x l r=>show (Tr.node v l r).get m=_;rw[cM,cM];by_cases hm:m=0<;>simp[hm]
  have h1 : Nat.beq n 0=false:=by
   cases hb:Nat.beq n 0 with
   | false=>rfl
   | true=>exact absurd (Nat.eq_of_beq_eq_true hb) hn
  rw[h1];have hlt:(n - 1) / 2<f:=by omega
  by_cases h2:(n - 1) % 2=0
  ·rw[show Nat.beq ((n - 1) % 2) 0=true by rw[h2];rfl]
   have key:∀(x:Option α) (l r:Tr α),(Tr.node x ((uZ f ((n - 1) / 2)).f v l) r).get m=if m=n then v else (Tr.node x l r).get m:=by
    intro x l r;rw[cM,cM]
    by_cases hm:m=0
    ·rw[if_pos hm,if_pos hm,if_neg (by omega)]
    rw[if_neg hm,if_neg hm]
    by_cases h3:(m - 1) % 2=0
    ·rw[if_pos h3,if_pos h3,iX f _ _ _ _ hlt]
     by_cases e:m=n
     ·subst e;simp
     rw[if_neg e,if_neg (λ e'=>e (nZ hm hn (by omega) e'))]
    rw[if_neg h3,if_neg h3,if_neg (λ e=>h3 (by subst e;exact h2))]
   cases t with
   | nil =>
    refine(key none .nil .nil).trans ?_;rw[cM]
    by_cases e:m=n
    ·simp[e]
    rw[if_neg e,if_neg e];by_cases hm:m=0<;>simp[hm]
   | node x l r=>exact key x l r
  have h3':Nat.beq ((n - 1) % 2) 0=false:=by
   cases hb:Nat.beq ((n - 1) % 2) 0 with
   | false=>rfl
   | true=>exact absurd (Nat.eq_of_beq_eq_true hb) h2
  rw[h3']
  have key:∀(x:Option α) (l r:Tr α),(Tr.node x l ((uZ f ((n - 1) / 2)).f v r)).get m=if m=n then v else (Tr.node x l r).get m:=by
   intro x l r;rw[cM,cM]
   by_cases hm:m=0
   ·rw[if_pos hm,if_pos hm,if_neg (by omega)]
   rw[if_neg hm,if_neg hm]
   by_cases h3:(m - 1) % 2=0
   ·rw[if_pos h3,if_pos h3,if_neg (λ e=>h2 (by subst e;exact h3))]
   rw[if_neg h3,if_neg h3,iX f _ _ _ _ hlt]
   by_cases e:m=n
   ·subst e;simp
   rw[if_neg e,if_neg (λ e'=>e (nZ hm hn (by omega) e'))]
  cases t with
  | nil =>
   refine(key none .nil .nil).trans ?_;rw[cM]
   by_cases e:m=n
   ·simp[e]
   rw[if_neg e,if_neg e];by_cases hm:m=0<;>simp[hm]
  | node x l r=>exact key x l r
theorem bG (vs:List α):∀(i:Nat) (t:Tr α) (m:Nat),(bO vs i t).get m=if i<=m/\m<i+vs.length then vs[m - i]? else t.get m:=by
 induction vs with
 | nil=>intro i t m;show t.get m=_;rw[if_neg (by simp)]
 | cons v r ih =>
  intro i t m;show (bO r (i+1) (t.put i (some v))).get m=_;rw[ih,get_put]
  by_cases h1:m=i
  ·subst h1;rw[if_neg (by omega),if_pos rfl,if_pos (by simp)];simp
  by_cases h2:i+1<=m/\m<i+1+r.length
  ·rw[if_pos h2,if_pos (by simp;omega)];obtain⟨j,rfl⟩:∃j,m=i+1+j:=⟨m - (i+1),by omega⟩;rw[show i+1+j - i=j+1 from by omega,show i+1+j - (i+1)=j from by omega];simp
  rw[if_neg h2,if_neg h1,if_neg (by simp;omega)]
end Tr
theorem pI {α:Type}(l:List α):∀i,nth l i=l[i]?:=by
 induction l with
 | nil=>intro i;rfl
 | cons a r ih=>intro i;cases i with
  | zero=>rfl
  | succ i=>exact(ih i).trans (by simp)
theorem NT {α:Type}(l:List α):∀n,dW l n=n+l.length:=by
 induction l with
 | nil=>intro n;rfl
 | cons a r ih =>
  intro n;show iL (n+1) (dW r)=_;rw[ed,ih];simp;omega
theorem cr {α:Type}(l:List α):dW l 0=l.length:=by rw[NT];simp
section
variable {α:Type}
theorem aiC (e:List α):tlO e=e.tail:=by cases e<;>rfl
theorem nn:∀(n:Nat)(l:List α),Ej n l=l.drop n
 | 0,l=>rfl
 | n+1,l=>by
  cases l with
  | nil=>show ([]:List α)=_;simp
  | cons a r=>show Ej n r=_;rw[nn n];rfl
theorem uM:∀(n:Nat)(l:List α),yp n l=l.take n
 | 0,l=>by cases l<;>rfl
 | n+1,[]=>rfl
 | n+1,a::l=>by
  show a::yp n l=_;rw[uM n];rfl
theorem JP:∀(l:List α)(n:Nat),jL l n=n+l.length
 | [],n=>rfl
 | a::l,n=>by
  show jL l (Nat.succ n)=_;rw[JP l];simp;omega
theorem iJ (l:List α):jL l 0=l.length:=by rw[JP];simp
theorem aaA (l:List α):∀i,aiX l i=l[i]?:=by
 induction l with
 | nil=>intro i;rfl
 | cons a r ih=>intro i;cases i with
  | zero=>rfl
  | succ i=>exact(ih i).trans (by simp)
theorem vH (vs:List α):∀(i:Nat)(t:Tr α)(m:Nat),(Bf vs i t).get m=if i<=m/\m<i+vs.length then none else t.get m:=by
 induction vs with
 | nil=>intro i t m;show t.get m=_;rw[if_neg (by simp)]
 | cons v r ih =>
  intro i t m;show (Bf r (i+1) (t.put i none)).get m=_;rw[ih,Tr.get_put]
  by_cases h1:m=i
  ·subst h1;rw[if_neg (by omega),if_pos rfl,if_pos (by simp)]
  by_cases h2:i+1<=m/\m<i+1+r.length
  ·rw[if_pos h2,if_pos (by simp;omega)]
  rw[if_neg h2,if_neg h1,if_neg (by simp;omega)]
theorem D6 (vs:List α)(i:Nat)(t:Tr α)(m:Nat):(Sc vs i t).get m=if i<=m/\m<i+vs.length then none else t.get m:=by
 cases t with
 | nil=>show (Tr.nil:Tr α).get m=_;simp
 | node v l r=>exact vH vs i _ m
namespace Ov
@[simp] theorem get_nil (n:Nat):(Ov.nil:Ov α).get n=none:=rfl
theorem jh (s:Nat)(c:Tr (List α))(o:Tr α)(n:Nat):(Ov.ch s c o).get n=match o.get n with
  | some v=>some v
  | none=>match c.get (n / s)with
   | some l=>l[n % s]?
   | none=>none:=by
 show (match o.get n with
  | some v=>some v
  | none=>match c.get (n / s)with
   | some l=>aiX l (n % s)
   | none=>none)=_
 cases o.get n with
 | some v=>rfl
 | none =>
  dsimp only
  cases c.get (n / s)with
  | none=>rfl
  | some l=>exact aaA l _
theorem D5 (t:Tr α)(n:Nat):(aiV t).get n=t.get n:=by cases t<;>rfl
theorem og {vs:List α}{i:Nat}{c:Tr (List α)}{o o':Tr α}{d:Option α}(m:Nat)(h1:0<vs.length)(h2:i % vs.length=0)(ho:∀m,o'.get m=if i<=m/\m<i+vs.length then none else o.get m)
  (hd:¬(i<=m/\m<i+vs.length)->(Ov.ch vs.length c o).get m=d):(Ov.ch vs.length (c.put (i / vs.length) (some vs)) o').get m=if i<=m/\m<i+vs.length then vs[m - i]? else d:=by
 have hdiv:vs.length*(i / vs.length)+i % vs.length=i:=Nat.div_add_mod i vs.length;rw[jh,ho,Tr.get_put]
 by_cases h:i<=m/\m<i+vs.length
 ·rw[if_pos h,if_pos h]
  have hq:m / vs.length=i / vs.length:=by
   apply Nat.div_eq_of_lt_le
   ·rw[Nat.mul_comm];omega
   rw[Nat.succ_mul,Nat.mul_comm];omega
  rw[if_pos hq];dsimp only
  have hm:m % vs.length=m - i:=by
   have:=Nat.div_add_mod m vs.length;rw[hq]at this;omega
  rw[hm]
 rw[if_neg h,if_neg h]
 have hq:m / vs.length≠i / vs.length:=by
  intro e;have:=Nat.div_add_mod m vs.length;rw[e]at this;have:=Nat.mod_lt m h1;omega
 rw[if_neg hq,<-hd h,jh]
theorem sj {s:Nat}(hs:0<s)(m:Nat):∀(f:Nat)(vs:List α)(i:Nat)(c:Tr (List α))(o:Tr α),f*s<=vs.length->i % s=0->(JD s f vs i c o).get m=if i<=m/\m<i+vs.length then vs[m - i]? else (Ov.ch s c o).get m
 | 0,vs,i,c,o,_,_=>by
  show (Ov.ch s c (Tr.bO vs i o)).get m=_;rw[jh,jh,Tr.bG]
  by_cases h:i<=m/\m<i+vs.length
  ·rw[if_pos h,if_pos h,getElem?_eq_getElem (by omega)]
  rw[if_neg h,if_neg h]
 | f + 1,vs,i,c,o,hl,hi=>by
  have hl':f*s+s<=vs.length:=by rw[<-Nat.succ_mul];exact hl
  have ht:(yp s vs).length=s:=by rw[uM,length_take];omega
  show (JD s f (Ej s vs) (i+s) (c.put (i / s) (some (yp s vs))) (Sc (yp s vs) i o)).get m=_;rw[sj hs m f _ _ _ _ (by rw[nn,length_drop];omega) (by rw[Nat.add_mod_right];exact hi)];have hp:=og (vs:=yp s vs) (i:=i) (c:=c) (o:=o) (o':=Sc (yp s vs) i o) (d:=(Ov.ch s c o).get m) m (by rw[ht];exact hs) (by rw[ht];exact hi) (D6 (yp s vs) i o) (λ _=>by rw[ht]);rw[ht]at hp;rw[hp,nn,length_drop]
  by_cases h1:i+s<=m/\m<i+s+(vs.length - s)
  ·rw[if_pos h1,if_pos (by omega),getElem?_drop];congr 1;omega
  rw[if_neg h1]
  by_cases h2:i<=m/\m<i+s
  ·rw[if_pos h2,if_pos (by omega),uM,getElem?_take];rw[if_pos (by omega)]
  rw[if_neg h2,if_neg (by omega)]
theorem bG (vs:List α) (i:Nat) (t:Ov α) (m:Nat):(bO vs i t).get m=if i<=m/\m<i+vs.length then vs[m - i]? else t.get m:=by
 unfold bO
 cases t with
 | nil =>
  dsimp only
  split
  ·rename_i hc;simp only[Bool.and_eq_true]at hc;rw[iJ]at hc ⊢
   split
   ·rename_i hc2;simp only[Bool.and_eq_true]at hc2;refine(sj (by omega) m (vs.length / 512) vs i .nil .nil (Nat.div_mul_le_self _ _) (Nat.eq_of_beq_eq_true hc2.2)).trans ?_;rw[jh];simp
   exact og m (by have:=Nat.le_of_ble_eq_true hc.1;omega) (Nat.eq_of_beq_eq_true hc.2) (o:=.nil) (λ m=>by simp) (λ _=>by rw[jh];simp)
  rw[D5,Tr.bG];congr 1
 | tr v l r =>
  dsimp only
  split
  ·rename_i hc;simp only[Bool.and_eq_true]at hc;rw[iJ]at hc ⊢;refine og m (by have:=Nat.le_of_ble_eq_true hc.1;omega) (Nat.eq_of_beq_eq_true hc.2) (o:=.node v l r) (vH vs i _) (λ _=>?_);rw[jh];show _=(Tr.node v l r).get m
   cases (Tr.node v l r).get m<;>simp
  rw[D5,Tr.bG];rfl
 | ch s c o =>
  dsimp only
  split
  ·rename_i hc;simp only[Bool.and_eq_true]at hc;rw[iJ]at hc;obtain⟨⟨h1,h2⟩,h3⟩:=hc;have h1:=Nat.eq_of_beq_eq_true h1;have h2:=Nat.le_of_ble_eq_true h2;have h3:=Nat.eq_of_beq_eq_true h3;subst h1;exact og m (by omega) h3 (D6 vs i o) (λ _=>rfl)
  split
  ·rename_i hc;simp only[Bool.and_eq_true]at hc;rw[iJ]at hc ⊢;obtain⟨⟨h1,h2⟩,h3⟩:=hc;exact sj (Nat.le_of_ble_eq_true h2) m _ vs i c o (Nat.div_mul_le_self _ _) (Nat.eq_of_beq_eq_true h3)
  rw[jh,jh,Tr.bG]
  by_cases h:i<=m/\m<i+vs.length
  ·rw[if_pos h,if_pos h,getElem?_eq_getElem (by omega)]
  rw[if_neg h,if_neg h]
theorem u0 (i:Nat) (t:Ov α):bO [] i t=t:=by
 cases t with
 | nil=>rfl
 | tr v l r=>rfl
 | ch s c o =>
  unfold bO;dsimp only
  split
  ·rename_i hc;simp only[Bool.and_eq_true]at hc;have h1:0=s:=Nat.eq_of_beq_eq_true hc.1.1;have h2:=Nat.le_of_ble_eq_true hc.1.2;omega
  split
  ·rename_i hc;simp only[Bool.and_eq_true]at hc;have h1:s<=0:=Nat.le_of_ble_eq_true hc.1.1;have h2:=Nat.le_of_ble_eq_true hc.1.2;omega
  rfl
end Ov
end
theorem cW (u:Nat)(z bs:List AV)(t:Ov AV)(i:Nat):fY u z bs t i =
  if i<u then (match t.get i with | some v=>some v | none=>match bs[i]? with | some v=>some v | none=>dflt z i)else none:=by
 unfold fY
 by_cases h:i<u
 ·have hb:Nat.blt i u=true:=Nat.ble_eq_true_of_le h;rw[hb,if_pos h,pI]
  cases t.get i<;>simp
  cases bs[i]?<;>simp
 have hb:Nat.blt i u=false:=by
  cases hh:Nat.blt i u with
  | false=>rfl
  | true=>exact absurd (Nat.le_of_ble_eq_true hh) (by omega)
 rw[hb,if_neg h];rfl
theorem oe {u z bs t i v}(h:fY u z bs t i=some v):i<u:=by
 rw[cW]at h
 by_cases h1:i<u
 ·exact h1
 rw[if_neg h1]at h;cases h
theorem pT (u:Nat) (z bs:List AV) (t:Ov AV) (o:Nat):∀(n:Nat) (acc l:List AV),oV u z bs t o n acc=some l ->
  ∃l0,l=l0++acc/\l0.length=n/\∀i,i<n->fY u z bs t (o+i)=l0[i]?
 | 0,acc,l,h=>by
  injection h with h;exact⟨[],by simp[h],rfl,λ i hi=>by omega⟩
 | n + 1,acc,l,h=>by
  have h':jK (fY u z bs t (o+n)) none (λ v=>oV u z bs t o n (v::acc))=some l:=h
  cases hg:fY u z bs t (o+n)with
  | none=>rw[hg]at h';cases h'
  | some v =>
   rw[hg]at h';obtain⟨l0,h1,h2,h3⟩:=pT u z bs t o n (v::acc) l h';refine⟨l0++[v],by simp[h1],by simp[h2],λ i hi=>?_⟩
   by_cases e:i<n
   ·rw[getElem?_append_left (by omega)];exact h3 i e
   have:i=n:=by omega
   subst this;rw[getElem?_append_right (by omega)];simp[h2,hg]
theorem vN {z bs:List AV}{x:AV}(h:vO z bs=some x):z=[x]/\bs=[]:=by
 unfold vO at h
 split at h
 ·split at h
  ·injection h with h;subst h;exact⟨rfl,rfl⟩
  cases h
 cases h
theorem uV (a:AV):∀n,(rpA a n).length=n/\∀i,i<n->(rpA a n)[i]?=some a
 | 0=>⟨rfl,λ i hi=>by omega⟩
 | n+1=>by
  obtain⟨h1,h2⟩:=uV a n;have e:rpA a (n+1)=a::rpA a n:=rfl;rw[e];refine⟨by simp[h1],λ i hi=>?_⟩
  cases i with
  | zero=>rfl
  | succ i=>simpa using h2 i (by omega)
theorem py (t : Tr AV) (fill:Option AV):∀(n i:Nat) (e l:List AV),yj t fill n i e=some l->l.length=n/\∀j,j<n->∃x,l[j]?=some x/\(t.get (i+j)=some x∨(t.get (i+j)=none/\(e[j]?=some x∨(e[j]?=none/\fill=some x))))
 | 0,i,e,l,h=>by
  have h:some []=some l:=h;injection h with h;subst h;exact⟨rfl,λ i hi=>by omega⟩
 | n + 1, i, e,l,h=>by
  have h:jK (jK (t.get i) (jK (hdL e) fill some) some) none (λ v=>jK (yj t fill n (i+1) (tlO e)) none λ l=>some (v::l))=some l:=h
  cases hv:jK (t.get i) (jK (hdL e) fill some) some with
  | none=>rw[hv]at h;cases h
  | some v =>
   rw[hv]at h;have h:jK (yj t fill n (i+1) (tlO e)) none (λ l=>some (v::l))=some l:=h
   cases hs:yj t fill n (i+1) (tlO e)with
   | none=>rw[hs]at h;cases h
   | some l1 =>
    rw[hs]at h;have h:some (v::l1)=some l:=h;injection h with h;subst h;obtain⟨h1,h2⟩:=py t fill n (i+1) (tlO e) l1 hs;refine⟨by simp[h1],λ j hj=>?_⟩
    cases j with
    | zero =>
     refine⟨v,rfl,?_⟩
     cases ht:t.get i with
     | some y=>rw[ht]at hv;exact .inl (by simpa[ht]using hv)
     | none =>
      rw[ht]at hv;have hv:jK (hdL e) fill some=some v:=hv;refine .inr ⟨by simp,?_⟩
      cases e with
      | nil=>exact .inr ⟨rfl,hv⟩
      | cons y e =>
       have hv:some y=some v:=hv;exact .inl (by simpa using hv)
    | succ j =>
     obtain⟨x,h3,h4⟩:=h2 j (by omega);rw[show i+1+j=i+(j+1) by omega]at h4;refine⟨x,by simpa using h3,?_⟩;rw[aiC]at h4;simpa using h4
theorem Kr (b:List AV):∀a,abQ a b=a++b
 | []=>rfl
 | x::a=>by
  show x::abQ a b=_;rw[Kr b a];rfl
theorem pD {l:List AV}{r k:Nat}(h:Nat.beq (jL (yp k (Ej r l)) 0) k=true):(yp k (Ej r l)).length=k/\∀j,j<k->∃x,(yp k (Ej r l))[j]?=some x/\l[r+j]?=some x:=by
 have h:=Nat.eq_of_beq_eq_true h;rw[iJ]at h;refine⟨h,λ j hj=>?_⟩;have e:=getElem?_eq_getElem (l:=yp k (Ej r l)) (i:=j) (by omega)
 have e2:(yp k (Ej r l))[j]?=l[r+j]?:=by
  rw[uM,nn,getElem?_take,if_pos hj,getElem?_drop]
 exact⟨_,e,by rw[<-e2];exact e⟩
theorem vG (fill:Option AV) (base:List AV) (s:Nat) (c:Tr (List AV)) (hs:0<s):∀(fuel o n:Nat) (l:List AV),D4 fill base s c fuel o n=some l->l.length=n/\∀j,j<n->∃x,l[j]?=some x/\(Fl fill base s c ((o+j) / s))[(o+j) % s]?=some x
 | 0,o,n,l,h=>by cases h
 | f + 1,o,n,l,h=>by
  have hmod:o % s<s:=Nat.mod_lt _ hs;have e:=Nat.div_add_mod o s
  have loc:∀j,o % s+j<s->(o+j) / s=o / s/\(o+j) % s=o % s+j:=by
   intro j hj
   have hq:(o+j) / s=o / s:=by
    apply Nat.div_eq_of_lt_le
    ·rw[Nat.mul_comm];omega
    rw[Nat.succ_mul,Nat.mul_comm];omega
   refine⟨hq,?_⟩;have e2:=Nat.div_add_mod (o+j) s;rw[hq]at e2;omega
  replace h:(match Nat.ble n (s - o % s)with
   | true=>match yp n (Ej (o % s) (Fl fill base s c (o / s)))with
    | l=>match Nat.beq (jL l 0) n with
     | true=>some l
     | false=>none
   | false=>match yp (s - o % s) (Ej (o % s) (Fl fill base s c (o / s)))with
    | l => match Nat.beq (jL l 0) (s - o % s)with
     | true=>match D4 fill base s c f (o+(s - o % s)) (n - (s - o % s))with
      | some r=>some (abQ l r)
      | none=>none
     | false=>none)=some l:=h
  split at h
  ·rename_i hb;have hle:=Nat.le_of_ble_eq_true hb;dsimp only at h
   split at h
   ·rename_i hc;injection h with h;subst h;obtain⟨h1,h2⟩:=pD hc;refine⟨h1,λ j hj=>?_⟩;obtain⟨x,h3,h4⟩:=h2 j hj;obtain⟨h5,h6⟩:=loc j (by omega);exact⟨x,h3,by rw[h5,h6];exact h4⟩
   cases h
  rename_i hb
  have hgt:s - o % s<n:=by
   cases Nat.lt_or_ge (s - o % s) n with
   | inl h=>exact h
   | inr h=>rw[Nat.ble_eq_true_of_le h]at hb;cases hb
  dsimp only at h
  split at h
  ·rename_i hc
   split at h
   ·rename_i r hr;injection h with h;subst h;obtain⟨h1,h2⟩:=pD hc;obtain⟨i1,i2⟩:=vG fill base s c hs f _ _ r hr;rw[Kr];refine⟨by rw[length_append,h1,i1];omega,λ j hj=>?_⟩
    by_cases hlt:j<s - o % s
    ·rw[getElem?_append_left (by omega)];obtain⟨x,h3,h4⟩:=h2 j hlt;obtain⟨h5,h6⟩:=loc j (by omega);exact⟨x,h3,by rw[h5,h6];exact h4⟩
    rw[getElem?_append_right (by omega),h1];obtain⟨x,h3,h4⟩:=i2 (j - (s - o % s)) (by omega);rw[show o+(s - o % s)+(j - (s - o % s))=o+j by omega]at h4;exact⟨x,h3,h4⟩
   cases h
  cases h
theorem Rt {u s:Nat}{z bs:List AV}{c:Tr (List AV)}{m:Nat}{x:AV}(hm:m<u)(hs:0<s)(h:(Fl (vO z bs) bs s c (m / s))[m % s]?=some x):fY u z bs (.ch s c .nil) m=some x:=by
 rw[cW,if_pos hm,Ov.jh];simp only[Tr.get_nil];unfold Fl at h
 split at h
 ·rename_i l hl;rw[hl];dsimp only;rw[h]
 rename_i hl;rw[hl];dsimp only
 split at h
 ·rename_i y hy;obtain⟨e1,e2⟩:=vN hy;rw[(uV y s).2 _ (Nat.mod_lt _ hs)]at h;injection h with h;subst h;rw[e1,e2];rfl
 rw[nn,getElem?_drop]at h;have e:=Nat.div_add_mod m s;have h:bs[m / s*s+m % s]?=some x:=h;rw[Nat.mul_comm,e]at h;rw[h]
theorem Dj {n r:Nat}{e l:List AV}(h:u4 n r e=some l):l.length=n/\∀j,j<n->∃x,l[j]?=some x/\e[r+j]?=some x:=by
 unfold u4 at h;dsimp only at h
 split at h
 ·rename_i hc;injection h with h;subst h;exact pD hc
 cases h
theorem jF {u z bs t o n l}(hinv:t=.nil->z=[]->bs.length=u) (h:gJ u z bs t o n=some l):
  l.length=n/\∀i,i<n->fY u z bs t (o+i)=l[i]?:=by
 have key:∀t,oV u z bs t o n []=some l->l.length=n/\∀i,i<n->fY u z bs t (o+i)=l[i]?:=by
  intro t h;obtain⟨l0,h1,h2,h3⟩:=pT u z bs t o n [] l h;simp at h1;subst h1;exact⟨h2,h3⟩
 have orr:∀(r:Option (List AV)) (z bs:List AV) (t:Ov AV),(∀l,r=some l->l.length=n/\∀i,i<n->fY u z bs t (o+i)=l[i]?)->orR r u z bs t o n=some l->l.length=n/\∀i,i<n->fY u z bs t (o+i)=l[i]?:=by
  intro r z bs t hr h;unfold orR at h
  split at h
  ·rename_i l1;injection h with h;subst h;exact hr _ rfl
  obtain⟨l0,h1,h2,h3⟩:=pT u z bs t o n [] l h;simp at h1;subst h1;exact⟨h2,h3⟩
 unfold gJ at h
 split at h
 ·split at h
  ·split at h
   ·rename_i hb;simp at hb;injection h with h;subst h;have hl:=hinv rfl rfl;obtain⟨rfl,rfl⟩:=hb;refine⟨hl,λ i hi=>?_⟩;rw[cW,if_pos (by omega)];simp;rw[getElem?_eq_getElem (by omega)]
   split at h
   ·rename_i hle;have hle:o+n<=u:=Nat.le_of_ble_eq_true hle;refine orr _ _ _ _ (λ l1 hl1=>?_) h;obtain⟨h1,h2⟩:=Dj hl1;refine⟨h1,λ i hi=>?_⟩;obtain⟨x,h3,h4⟩:=h2 i hi;rw[h3,cW,if_pos (by omega),Ov.get_nil];dsimp only;rw[h4]
   cases h
  split at h
  ·rename_i x hx
   split at h
   ·rename_i hle;have hle:o+n<=u:=Nat.le_of_ble_eq_true hle;injection h with h;subst h;obtain⟨e1,e2⟩:=vN hx;rw[e1,e2];obtain⟨h1,h2⟩:=uV x n;refine⟨h1,λ i hi=>?_⟩;rw[h2 i hi,cW,if_pos (by omega)];rfl
   cases h
  exact key _ h
 ·rename_i x lt rt
  split at h
  ·rename_i hle;have hle:o+n<=u:=Nat.le_of_ble_eq_true hle;refine orr _ _ _ _ (λ l1 hl1=>?_) h;obtain⟨h1,h2⟩:=py _ _ _ _ _ _ hl1;refine⟨h1,λ i hi=>?_⟩;obtain⟨y,h3,h4⟩:=h2 i hi;rw[h3,cW,if_pos (by omega)]
   show (match (Tr.node x lt rt).get (o+i)with
    | some v=>some v
    | none=>match bs[o+i]? with
     | some v=>some v
     | none=>dflt z (o+i))=some y
   rw[nn,getElem?_drop]at h4
   rcases h4 with h4 | ⟨h4,h5 | ⟨h5,h6⟩⟩
   ·rw[h4]
   ·rw[h4,h5]
   rw[h4,h5];dsimp only;unfold acP at h6
   split at h6
   ·injection h6 with h6;subst h6;rfl
   cases h6
  cases h
 rename_i s c p
 split at h
 ·rename_i hle;have hle:o+n<=u:=Nat.le_of_ble_eq_true hle
  split at h
  ·rename_i hs;have hs:0<s:=Nat.le_of_ble_eq_true hs;have e:=Nat.div_add_mod o s
   have loc:∀j,o % s+j<s->(o+j) / s=o / s/\(o+j) % s=o % s+j:=by
    intro j hj
    have hq:(o+j) / s=o / s:=by
     apply Nat.div_eq_of_lt_le
     ·rw[Nat.mul_comm];omega
     rw[Nat.succ_mul,Nat.mul_comm];omega
    refine⟨hq,?_⟩;have e2:=Nat.div_add_mod (o+j) s;rw[hq]at e2;omega
   have mk:∀l1,D4 (vO z bs) bs s c (Nat.add (Nat.div n s) 2) o n=some l1->l1.length=n/\∀i,i<n->fY u z bs (.ch s c .nil) (o+i)=l1[i]?:=by
    intro l1 hg;obtain⟨h1,h2⟩:=vG _ _ _ _ hs _ _ _ _ hg;refine⟨h1,λ i hi=>?_⟩;obtain⟨x,h3,h4⟩:=h2 i hi;rw[h3];exact Rt (by omega) hs h4
   split at h
   ·refine orr _ _ _ _ (λ l1 hl1=>?_) h
    split at hl1
    ·rename_i hc;simp only[Bool.and_eq_true]at hc;have c1:o % s=0:=Nat.eq_of_beq_eq_true hc.1;have c2:n=s:=Nat.eq_of_beq_eq_true hc.2
     split at hl1
     ·rename_i l0 hl0;have hl0:c.get (o / s)=some l0:=hl0
      split at hl1
      ·rename_i hc3;have c3:=Nat.eq_of_beq_eq_true hc3;rw[iJ]at c3;injection hl1 with hl1;subst hl1;refine⟨c3,λ i hi=>?_⟩;obtain⟨h3,h4⟩:=loc i (by omega);rw[cW,if_pos (by omega),Ov.jh,h3,h4,hl0,c1,Nat.zero_add];simp only[Tr.get_nil];rw[getElem?_eq_getElem (by omega)]
      cases hl1
     exact mk _ hl1
    exact mk _ hl1
   rename_i v lt rt;refine orr _ _ _ _ (λ l1 hl1=>?_) h
   split at hl1
   ·rename_i hc;have hc:o % s+n<=s:=Nat.le_of_ble_eq_true hc
    split at hl1
    ·rename_i e0 he0;have he0:c.get (o / s)=some e0:=he0;obtain⟨h1,h2⟩:=py _ _ _ _ _ _ hl1;refine⟨h1,λ i hi=>?_⟩;obtain⟨y,h3,h4⟩:=h2 i hi;obtain⟨h5,h6⟩:=loc i (by omega);rw[h3,cW,if_pos (by omega),Ov.jh,h5,h6,he0];rw[nn,getElem?_drop]at h4;have h4:(Tr.node v lt rt).get (o+i)=some y∨((Tr.node v lt rt).get (o+i)=none/\(e0[o % s+i]?=some y∨(e0[o % s+i]?=none/\(none:Option AV)=some y))):=h4
     rcases h4 with h4 | ⟨h4,h5 | ⟨_,h6⟩⟩
     ·rw[h4]
     ·rw[h4];dsimp only;rw[h5]
     cases h6
    cases hl1
   cases hl1
  exact key _ h
 cases h
end Go.Abs
