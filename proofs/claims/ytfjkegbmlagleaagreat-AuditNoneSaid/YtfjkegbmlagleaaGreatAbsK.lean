/- The abstract machine: values, blocks, the effect of each operation, code as a function. -/
import Derived.Calls
import Derived.LoopN
import Derived.OrdersIn
namespace Go.Abs

/-- an index tree -/
inductive Tr (α : Type) where
  | nil
  | node (v : Option α) (l r : Tr α)

namespace Tr
variable {α : Type}
noncomputable def get (t : Tr α) : Nat → Option α :=
  Tr.rec (motive := fun _ => Nat → Option α) (fun _ => none) (fun v _ _ gl gr n =>
    Bool.rec (motive := fun _ => Option α) (Bool.rec (motive := fun _ => Option α) (gr (Nat.div (Nat.sub n 1) 2)) (gl (Nat.div (Nat.sub n 1) 2)) (Nat.beq (Nat.mod (Nat.sub n 1) 2) 0)) v (Nat.beq n 0)) t
noncomputable def single (f : Nat) : Nat → Option α → Tr α :=
  Nat.rec (motive := fun _ => Nat → Option α → Tr α) (fun _ _ => .nil) (fun _ ih n v =>
    Bool.rec (motive := fun _ => Tr α) (Bool.rec (motive := fun _ => Tr α) (.node none .nil (ih (Nat.div (Nat.sub n 1) 2) v)) (.node none (ih (Nat.div (Nat.sub n 1) 2) v) .nil) (Nat.beq (Nat.mod (Nat.sub n 1) 2) 0)) (.node v .nil .nil) (Nat.beq n 0)) f
noncomputable def put (t : Tr α) : Nat → Option α → Tr α :=
  Tr.rec (motive := fun _ => Nat → Option α → Tr α) (fun n v => single (Nat.succ n) n v) (fun x l r pl pr n v =>
    Bool.rec (motive := fun _ => Tr α) (Bool.rec (motive := fun _ => Tr α) (.node x l (pr (Nat.div (Nat.sub n 1) 2) v)) (.node x (pl (Nat.div (Nat.sub n 1) 2) v) r) (Nat.beq (Nat.mod (Nat.sub n 1) 2) 0)) (.node v l r) (Nat.beq n 0)) t
/-- a slot's getter and putter, laid out once -/
structure Gt (α : Type) where
  f : Tr α → Option α
structure Pt (α : Type) where
  f : Option α → Tr α → Tr α
noncomputable def hd (t : Tr α) : Option α := Tr.rec (motive := fun _ => Option α) none (fun v _ _ _ _ => v) t
noncomputable def goL (k : Gt α) (t : Tr α) : Option α := Tr.rec (motive := fun _ => Option α) none (fun _ l _ _ _ => k.f l) t
noncomputable def goR (k : Gt α) (t : Tr α) : Option α := Tr.rec (motive := fun _ => Option α) none (fun _ _ r _ _ => k.f r) t
noncomputable def getK (f : Nat) : Nat → Gt α :=
  Nat.rec (motive := fun _ => Nat → Gt α) (fun _ => ⟨fun _ => none⟩) (fun _ ih n =>
    Bool.rec (motive := fun _ => Gt α) (Bool.rec (motive := fun _ => Gt α) ⟨goR (ih (Nat.div (Nat.sub n 1) 2))⟩ ⟨goL (ih (Nat.div (Nat.sub n 1) 2))⟩ (Nat.beq (Nat.mod (Nat.sub n 1) 2) 0)) ⟨hd⟩ (Nat.beq n 0)) f
noncomputable def phd (v : Option α) (t : Tr α) : Tr α := Tr.rec (motive := fun _ => Tr α) (.node v .nil .nil) (fun _ l r _ _ => .node v l r) t
noncomputable def pL (k : Pt α) (v : Option α) (t : Tr α) : Tr α := Tr.rec (motive := fun _ => Tr α) (.node none (k.f v .nil) .nil) (fun x l r _ _ => .node x (k.f v l) r) t
noncomputable def pR (k : Pt α) (v : Option α) (t : Tr α) : Tr α := Tr.rec (motive := fun _ => Tr α) (.node none .nil (k.f v .nil)) (fun x l r _ _ => .node x l (k.f v r)) t
noncomputable def putK (f : Nat) : Nat → Pt α :=
  Nat.rec (motive := fun _ => Nat → Pt α) (fun _ => ⟨fun _ t => t⟩) (fun _ ih n =>
    Bool.rec (motive := fun _ => Pt α) (Bool.rec (motive := fun _ => Pt α) ⟨pR (ih (Nat.div (Nat.sub n 1) 2))⟩ ⟨pL (ih (Nat.div (Nat.sub n 1) 2))⟩ (Nat.beq (Nat.mod (Nat.sub n 1) 2) 0)) ⟨phd⟩ (Nat.beq n 0)) f
noncomputable def putAll (vs : List α) : Nat → Tr α → Tr α :=
  List.rec (motive := fun _ => Nat → Tr α → Tr α) (fun _ t => t) (fun v _ ih i t => ih (Nat.succ i) (t.put i (some v))) vs
end Tr

/-! ### what is stored into a block: one by one, or in pieces of one length -/
inductive Ov (α : Type) where
  | nil
  | tr (v : Option α) (l r : Tr α)
  | ch (s : Nat) (c : Tr (List α)) (o : Tr α)
section
variable {α : Type}
noncomputable def tlO (e : List α) : List α := List.rec (motive := fun _ => List α) [] (fun _ t _ => t) e
noncomputable def drO (n : Nat) : List α → List α := Nat.rec (motive := fun _ => List α → List α) (fun l => l) (fun _ ih l => List.rec (motive := fun _ => List α) [] (fun _ t _ => ih t) l) n
noncomputable def tkO (n : Nat) : List α → List α := Nat.rec (motive := fun _ => List α → List α) (fun _ => []) (fun _ ih l => List.rec (motive := fun _ => List α) [] (fun a t _ => a :: ih t) l) n
noncomputable def nthL (l : List α) : Nat → Option α :=
  List.rec (motive := fun _ => Nat → Option α) (fun _ => none) (fun a _ ih i => Nat.rec (motive := fun _ => Option α) (some a) (fun j _ => ih j) i) l
noncomputable def lenO (l : List α) : Nat → Nat := List.rec (motive := fun _ => Nat → Nat) (fun n => n) (fun _ _ ih n => Nat.rec (motive := fun _ => Nat) (ih (Nat.succ n)) (fun _ _ => ih (Nat.succ n)) (Nat.succ n)) l
noncomputable def clrAll (vs : List α) : Nat → Tr α → Tr α :=
  List.rec (motive := fun _ => Nat → Tr α → Tr α) (fun _ t => t) (fun _ _ ih i t => ih (Nat.succ i) (t.put i none)) vs
noncomputable def clrO (vs : List α) (i : Nat) (t : Tr α) : Tr α := match t with
  | .nil => .nil
  | .node v l r => clrAll vs i (.node v l r)
end
namespace Ov
variable {α : Type}
def ofTr : Tr α → Ov α
  | .nil => .nil
  | .node v l r => .tr v l r
noncomputable def get : Ov α → Nat → Option α
  | .nil, _ => none
  | .tr v l r, n => (Tr.node v l r).get n
  | .ch s c o, n => match o.get n with
    | some v => some v
    | none => match c.get (Nat.div n s) with
      | some l => nthL l (Nat.mod n s)
      | none => none
/-- many pieces -/
noncomputable def putCh (s : Nat) (f : Nat) : List α → Nat → Tr (List α) → Tr α → Ov α :=
  Nat.rec (motive := fun _ => List α → Nat → Tr (List α) → Tr α → Ov α) (fun vs i c o => .ch s c (Tr.putAll vs i o))
    (fun _ ih vs i c o => ih (drO s vs) (Nat.add i s) (c.put (Nat.div i s) (some (tkO s vs))) (clrO (tkO s vs) i o)) f
noncomputable def putAll (vs : List α) (i : Nat) (t : Ov α) : Ov α := match t with
  | .nil => match Nat.ble 48 (lenO vs 0) && Nat.beq (Nat.mod i (lenO vs 0)) 0 with
    | true => match Nat.ble 1024 (lenO vs 0) && Nat.beq (Nat.mod i 512) 0 with
      | true => putCh 512 (Nat.div (lenO vs 0) 512) vs i .nil .nil
      | false => .ch (lenO vs 0) (Tr.put .nil (Nat.div i (lenO vs 0)) (some vs)) .nil
    | false => ofTr (Tr.putAll vs i .nil)
  | .tr v l r => match Nat.ble 48 (lenO vs 0) && Nat.beq (Nat.mod i (lenO vs 0)) 0 with
    | true => .ch (lenO vs 0) (Tr.put .nil (Nat.div i (lenO vs 0)) (some vs)) (clrAll vs i (.node v l r))
    | false => ofTr (Tr.putAll vs i (.node v l r))
  | .ch s c o => match Nat.beq (lenO vs 0) s && Nat.ble 1 s && Nat.beq (Nat.mod i s) 0 with
    | true => .ch s (c.put (Nat.div i s) (some vs)) (clrO vs i o)
    | false => match Nat.ble s (lenO vs 0) && Nat.ble 1 s && Nat.beq (Nat.mod i s) 0 with
      | true => putCh s (Nat.div (lenO vs 0) s) vs i c o
      | false => .ch s c (Tr.putAll vs i o)
end Ov

inductive AV where
  | int (k : IntKind) (n : Int)
  | bool (b : Bool)
  | str (l : List Nat)
  | ptr (b o : Nat)
  | sl (b o len sz : Nat)
  | agg (cs : List AV) (n : Nat)
  | tup (vs : List AV)
  | ifc (t : TypeId) (v : AV)
  | fn (f : Fn) (first cap : List AV)
  | map (b : Nat)
  | ds (cs : List AV) (len sz : Nat)
  | dp (cs : List AV)
  | yld (b : Nat)
  | cst (v : Value)

def atom : Value → Bool
  | .pointer none | .slice none 0 0 | .nilIface | .nilFunc | .map none => true
  | _ => false

def AV.one : AV → Bool
  | .agg _ _ | .tup _ => false
  | _ => true
def AV.cells : AV → List AV
  | .agg cs _ => cs
  | v => [v]
def AV.len : AV → Nat
  | .agg _ n => n
  | _ => 1

inductive AOut where
  | normal | exit (id : Nat) | ret

inductive ABlk where
  | cells (used : Nat) (z base : List AV) (t : Ov AV)
  | map (es : List (AV × AV × Nat)) (clock : Nat)
  | loop (st : LoopState) (jump : AOut) (nt : Nat) (F : Tr AV) (ps : List Nat) (a b : Code)
  | defd
  | iter (m : Option Nat) (since : Nat) (seen : List Nat) (last : Nat)

abbrev Fr := Tr AV
abbrev Hp := Tr ABlk
/-- a getter, boxed (so that the kernel keeps it laid out) -/
structure G where
  f : Fr → Option AV

inductive ERes where
  | fail
  | val (v : AV)
  | new (v : AV) (k : ABlk)
  | upd (v : AV) (b : Nat) (k : ABlk)
  | mv (v : AV) (b : Nat) (k : ABlk)

abbrev Eff := Fr → Hp → Nat → ERes

inductive Res where
  | fail
  | mk (o : AOut) (F : Fr) (H : Hp) (n : Nat) (m : List Nat)
inductive CRes where
  | fail
  | mk (v : AV) (H : Hp) (n : Nat)

structure Ce where
  call : FuncId → List AV → Hp → Nat → CRes
  code : Nat → Code → Fr → Hp → Nat → Res

/-- code, boxed likewise -/
structure K where
  f : Ce → Fr → Hp → Nat → List Nat → Res

/-! ### small things -/
noncomputable def forceN {α : Type} (n : Nat) (k : Nat → α) : α := Nat.rec (motive := fun _ => α) (k 0) (fun m _ => k (Nat.succ m)) n
noncomputable def forceI {α : Type} (i : Int) (k : Int → α) : α := Int.rec (motive := fun _ => α) (fun m => forceN m fun m => k (.ofNat m)) (fun m => forceN m fun m => k (.negSucc m)) i

noncomputable def bsel {α : Type} (c : Bool) (a b : α) : α := Bool.rec (motive := fun _ => α) b a c
noncomputable def osel {α β : Type} (o : Option α) (d : β) (k : α → β) : β := Option.rec (motive := fun _ => β) d k o

noncomputable def dflt (z : List AV) (i : Nat) : Option AV :=
  List.rec (motive := fun _ => Option AV) none (fun a r _ => List.rec (motive := fun _ => Option AV) (some a) (fun _ _ _ => z[i % z.length]?) r) z
noncomputable def nth {α : Type} (l : List α) : Nat → Option α :=
  List.rec (motive := fun _ => Nat → Option α) (fun _ => none) (fun a _ ih i => Nat.rec (motive := fun _ => Option α) (some a) (fun j _ => ih j) i) l
noncomputable def getc (used : Nat) (z base : List AV) (t : Ov AV) (i : Nat) : Option AV :=
  bsel (Nat.blt i used) (osel (t.get i) (osel (nth base i) (dflt z i) some) some) none
noncomputable def grabR (used : Nat) (z base : List AV) (t : Ov AV) (o : Nat) (n : Nat) : List AV → Option (List AV) :=
  Nat.rec (motive := fun _ => List AV → Option (List AV)) some (fun m ih acc => osel (getc used z base t (Nat.add o m)) none (fun v => ih (v :: acc))) n
noncomputable def rpA (a : AV) (n : Nat) : List AV := Nat.rec (motive := fun _ => List AV) [] (fun _ ih => a :: ih) n
def fillO (z base : List AV) : Option AV := match base with
  | [] => match z with
    | [a] => some a
    | _ => none
  | _ :: _ => none
noncomputable def hdL (e : List AV) : Option AV := List.rec (motive := fun _ => Option AV) none (fun a _ _ => some a) e
def fillZ (z : List AV) : Option AV := match z with
  | [a] => some a
  | _ => none
/-- n from i on, of a tree over a list -/
noncomputable def walkO (t : Tr AV) (fill : Option AV) (n : Nat) : Nat → List AV → Option (List AV) :=
  Nat.rec (motive := fun _ => Nat → List AV → Option (List AV)) (fun _ _ => some []) (fun _ ih i e => osel (osel (t.get i) (osel (hdL e) fill some) some) none fun v => osel (ih (Nat.succ i) (tlO e)) none fun l => some (v :: l)) n
/-- the cells of the piece q -/
noncomputable def srcO (fill : Option AV) (base : List AV) (s : Nat) (c : Tr (List AV)) (q : Nat) : List AV := match c.get q with
  | some l => l
  | none => match fill with
    | some x => rpA x s
    | none => drO (Nat.mul q s) base
noncomputable def appL (a b : List AV) : List AV := List.rec (motive := fun _ => List AV) b (fun x _ ih => x :: ih) a
noncomputable def grabM (fill : Option AV) (base : List AV) (s : Nat) (c : Tr (List AV)) (fuel : Nat) : Nat → Nat → Option (List AV) :=
  Nat.rec (motive := fun _ => Nat → Nat → Option (List AV)) (fun _ _ => none) (fun _ ih o n =>
    match Nat.ble n (Nat.sub s (Nat.mod o s)) with
    | true => match tkO n (drO (Nat.mod o s) (srcO fill base s c (Nat.div o s))) with
      | l => match Nat.beq (lenO l 0) n with
        | true => some l
        | false => none
    | false => match tkO (Nat.sub s (Nat.mod o s)) (drO (Nat.mod o s) (srcO fill base s c (Nat.div o s))) with
      | l => match Nat.beq (lenO l 0) (Nat.sub s (Nat.mod o s)) with
        | true => match ih (Nat.add o (Nat.sub s (Nat.mod o s))) (Nat.sub n (Nat.sub s (Nat.mod o s))) with
          | some r => some (appL l r)
          | none => none
        | false => none) fuel
/-- a result, or the slow way -/
noncomputable def orR (r : Option (List AV)) (used : Nat) (z base : List AV) (t : Ov AV) (o n : Nat) : Option (List AV) := match r with
  | some l => some l
  | none => grabR used z base t o n []
noncomputable def pieceO (n r : Nat) (e : List AV) : Option (List AV) := match tkO n (drO r e) with
  | l => match Nat.beq (lenO l 0) n with
    | true => some l
    | false => none
/-- n cells from o on; a whole block that nothing was stored into: its list -/
noncomputable def grab (used : Nat) (z base : List AV) (t : Ov AV) (o n : Nat) : Option (List AV) :=
  match t with
  | .nil => match z with
    | [] => match Nat.beq o 0 && Nat.beq n used with
      | true => some base
      | false => match Nat.ble (Nat.add o n) used with
        | true => orR (pieceO n o base) used [] base .nil o n
        | false => none
    | a :: r => match fillO (a :: r) base with
      | some x => match Nat.ble (Nat.add o n) used with
        | true => some (rpA x n)
        | false => none
      | none => grabR used (a :: r) base .nil o n []
  | .tr x l r => match Nat.ble (Nat.add o n) used with
    | true => orR (walkO (.node x l r) (fillZ z) n o (drO o base)) used z base (.tr x l r) o n
    | false => none
  | .ch s c p => match Nat.ble (Nat.add o n) used with
    | true => match Nat.ble 1 s with
      | true => match p with
        | .nil => orR (match Nat.beq (Nat.mod o s) 0 && Nat.beq n s with
          | true => match c.get (Nat.div o s) with
            | some l => match Nat.beq (lenO l 0) n with
              | true => some l
              | false => none
            | none => grabM (fillO z base) base s c (Nat.add (Nat.div n s) 2) o n
          | false => grabM (fillO z base) base s c (Nat.add (Nat.div n s) 2) o n) used z base (.ch s c .nil) o n
        | .node v l r => orR (match Nat.ble (Nat.add (Nat.mod o s) n) s with
          | true => match c.get (Nat.div o s) with
            | some e => walkO (.node v l r) none n o (drO (Nat.mod o s) e)
            | none => none
          | false => none) used z base (.ch s c (.node v l r)) o n
      | false => grabR used z base (.ch s c p) o n []
    | false => none

def patch : List AV → Nat → List AV → Option (List AV)
  | cs, _, [] => some cs
  | [], _, _ :: _ => none
  | _ :: cs, 0, v :: vs => (patch cs 0 vs).map (v :: ·)
  | c :: cs, o + 1, v :: vs => (patch cs o (v :: vs)).map (c :: ·)

def fillP (F : Fr) : List (Nat × Nat × G) → List AV → Option (List AV)
  | [], cs => some cs
  | (o, s, x) :: r, cs => match x.f F with
    | some v => match Nat.beq v.len s && Nat.blt 0 s with
      | true => match patch cs o v.cells with
        | some cs' => fillP F r cs'
        | none => none
      | false => none
    | none => none

def evs (F : Fr) : List G → Option (List AV)
  | [] => some []
  | x :: r => match x.f F with
    | some a => match evs F r with
      | some l => some (a :: l)
      | none => none
    | none => none

def allOne : List AV → Bool
  | [] => true
  | v :: r => v.one && allOne r
def rep (z : List AV) : Nat → List AV
  | 0 => []
  | n + 1 => z ++ rep z n

def eqNats : List Nat → List Nat → Bool
  | [], [] => true
  | a :: x, b :: y => match Nat.beq a b with
    | true => eqNats x y
    | false => false
  | _, _ => false
def lessNats : List Nat → List Nat → Bool
  | _, [] => false
  | [], _ :: _ => true
  | a :: x, b :: y => Nat.blt a b || (Nat.beq a b && lessNats x y)
noncomputable def lenAcc {α : Type} (l : List α) : Nat → Nat := List.rec (motive := fun _ => Nat → Nat) (fun n => n) (fun _ _ ih n => forceN (Nat.succ n) ih) l
def bytesOf : List AV → Option (List Nat)
  | [] => some []
  | .int .u8 n :: r => (bytesOf r).map (n.toNat % 256 :: ·)
  | _ :: _ => none
def u8s (l : List Nat) : List AV := l.map fun n => .int .u8 (Int.ofNat n)

def eqAtom : AV → AV → Option Bool
  | .int j a, .int k b => if j = k then some (a == b) else none
  | .bool a, .bool b => some (a == b)
  | .str a, .str b => some (eqNats a b)
  | _, _ => none
inductive LK where
  | i | s | b
def eqLeaf : LK → AV → AV → Option Bool
  | .i, .int j a, .int k b => if j = k then some (a == b) else none
  | .b, .bool a, .bool b => some (a == b)
  | .s, .str a, .str b => some (eqNats a b)
  | _, _, _ => none
def eqAtoms : List LK → List AV → List AV → Option Bool
  | [], [], [] => some true
  | q :: qs, a :: x, b :: y => match eqLeaf q a b with
    | some true => eqAtoms qs x y
    | some false => some false
    | none => none
  | _, _, _ => none

inductive EqK where
  | num | bool | ptr | slice | map | func | iface | ifacen
/-- '==' of two values of a kind -/
def eqVal (q : EqK) (x y : AV) : Option Bool :=
  match q, x, y with
  | .num, .int j a, .int k b => if j = k then some (a == b) else none
  | .num, .str a, .str b => some (eqNats a b)
  | .bool, .bool a, .bool b => some (a == b)
  | .ptr, .ptr a o, .ptr b p => match Nat.beq a b with
    | true => some (Nat.beq o p)
    | false => none
  | .ptr, .ptr _ _, .cst (.pointer none) => some false
  | .ptr, .cst (.pointer none), .ptr _ _ => some false
  | .ptr, .cst (.pointer none), .cst (.pointer none) => some true
  | .slice, .sl .., .cst (.slice none _ _) => some false
  | .slice, .ds _ (_ + 1) _, .cst (.slice none _ _) => some false
  | .slice, .cst (.slice none _ _), .sl .. => some false
  | .slice, .cst (.slice none _ _), .ds _ (_ + 1) _ => some false
  | .slice, .cst (.slice none _ _), .cst (.slice none _ _) => some true
  | .map, .map _, .cst (.map none) => some false
  | .map, .cst (.map none), .map _ => some false
  | .map, .cst (.map none), .cst (.map none) => some true
  | .func, .fn .., .cst .nilFunc => some false
  | .func, .cst .nilFunc, .fn .. => some false
  | .func, .cst .nilFunc, .cst .nilFunc => some true
  | .iface, .ifc _ _, .cst .nilIface => some false
  | .iface, .cst .nilIface, .ifc _ _ => some false
  | .ifacen, .ifc _ _, .cst .nilIface => some false
  | .ifacen, .cst .nilIface, .ifc _ _ => some false
  | .ifacen, .cst .nilIface, .cst .nilIface => some true
  | _, _, _ => none

def nat? : AV → Option Nat
  | .int _ (.ofNat n) => some n
  | _ => none

def bnd (d : Nat) : Option AV → Option Nat
  | none => some d
  | some v => nat? v
def bnds (len : Nat) (lo hi mx : Option AV) : Option (Nat × Nat) :=
  match bnd len mx with
  | some m => match bnd len hi with
    | some h => match bnd 0 lo with
      | some l => match Nat.ble l h && Nat.ble h len && Nat.ble h m && Nat.ble m len with
        | true => some (l, h)
        | false => none
      | none => none
    | none => none
  | none => none
def oev (F : Fr) : Option G → Option (Option AV)
  | none => some none
  | some x => (x.f F).map some

def big : Nat := 1073741824

noncomputable def sliceCells (H : Hp) (sz : Nat) : AV → Option (List AV)
  | .sl b o len s => bif Nat.beq s sz then (match H.get b with
    | some (.cells u z bs t) => grab u z bs t o (len * sz)
    | _ => none) else none
  | .ds cs _ s => bif Nat.beq s sz then some cs else none
  | .cst (.slice none _ _) => some []
  | .str l => bif Nat.beq sz 1 then some (u8s l) else none
  | _ => none
noncomputable def sliceLen : AV → Option Nat
  | .sl _ _ len _ => some len
  | .ds _ len _ => some len
  | .cst (.slice none _ _) => some 0
  | .str l => some (lenAcc l 0)
  | _ => none

def minR (k : IntKind) : Int → List AV → Option AV
  | a, [] => some (.int k a)
  | a, .int j b :: r => if k = j then minR k (if b < a then b else a) r else none
  | _, _ => none
def minI : List AV → Option AV
  | .int k a :: r => minR k a r
  | _ => none
def maxR (k : IntKind) : Int → List AV → Option AV
  | a, [] => some (.int k a)
  | a, .int j b :: r => if k = j then maxR k (if b > a then b else a) r else none
  | _, _ => none
def maxI : List AV → Option AV
  | .int k a :: r => maxR k a r
  | _ => none

def findKey (q : LK) (k : AV) : List (AV × AV × Nat) → Option (Option AV)
  | [] => some none
  | e :: r => match eqLeaf q k e.1 with
    | some true => some (some e.2.1)
    | some false => findKey q k r
    | none => none
def setKey (q : LK) (k v : AV) : List (AV × AV × Nat) → Option (Option (List (AV × AV × Nat)))
  | [] => some none
  | e :: r => match eqLeaf q k e.1 with
    | some true => some (some ((k, v, e.2.2) :: r))
    | some false => match setKey q k v r with
      | some (some r') => some (some (e :: r'))
      | some none => some none
      | none => none
    | none => none
/-! ### the operations' effects: of values -/
def eMov (x : G) : Eff := fun F _ _ => match x.f F with
  | some v => .val v
  | none => .fail
def ePick (c a b : G) : Eff := fun F _ _ => match c.f F with
  | some (.bool true) => eMov a F .nil 0
  | some (.bool false) => eMov b F .nil 0
  | _ => .fail
def eAlloc (z : List AV) (len : Nat) : Eff := fun _ _ n => .new (.ptr n 0) (.cells len [] z .nil)
def eBox (x : G) : Eff := fun F _ n => match x.f F with
  | some v => .new (.ptr n 0) (.cells v.len [] v.cells .nil)
  | none => .fail
def eBuild (z : List AV) (k : Nat) (ps : List (Nat × Nat × G)) : Eff := fun F _ _ => match fillP F ps z with
  | some cs => .val (.agg cs k)
  | none => .fail
def eBslice (z : List AV) (k sz : Nat) (ps : List (Nat × Nat × G)) : Eff := fun F _ n => match fillP F ps (rep z k) with
  | some cs => .new (.sl n 0 k sz) (.cells (k * sz) [] cs .nil)
  | none => .fail
noncomputable def cLoad1 : AV → Hp → ERes
  | .ptr b o, H => match H.get b with
    | some (.cells u z bs t) => match getc u z bs t o with
      | some v => .val v
      | none => .fail
    | _ => .fail
  | .dp (v :: _), _ => .val v
  | _, _ => .fail
noncomputable def eLoad1 (x : G) : Eff := fun F H _ => match x.f F with
  | some v => cLoad1 v H
  | none => .fail
noncomputable def cLoadN (k : Nat) : AV → Hp → ERes
  | .ptr b o, H => match H.get b with
    | some (.cells u z bs t) => match grab u z bs t o k with
      | some l => .val (.agg l k)
      | none => .fail
    | _ => .fail
  | .dp cs, _ => match Nat.ble k cs.length with
    | true => .val (.agg (cs.take k) k)
    | false => .fail
  | _, _ => .fail
noncomputable def eLoadN (k : Nat) (x : G) : Eff := fun F H _ => match x.f F with
  | some v => cLoadN k v H
  | none => .fail
/-- a block that cells are stored into: a small one is laid anew -/
noncomputable def stBlk (u : Nat) (z bs : List AV) (t : Ov AV) (vs : List AV) (o : Nat) : ABlk := match t with
  | .nil => match z with
    | [] => match Nat.ble u 64 with
      | true => match patch bs o vs with
        | some bs' => .cells u [] bs' .nil
        | none => .cells u [] bs (Ov.putAll vs o .nil)
      | false => .cells u [] bs (Ov.putAll vs o .nil)
    | a :: r => .cells u (a :: r) bs (Ov.putAll vs o .nil)
  | .tr x l r => .cells u z bs (Ov.putAll vs o (.tr x l r))
  | .ch s c p => .cells u z bs (Ov.putAll vs o (.ch s c p))
noncomputable def cStore (k : Nat) : AV → AV → Hp → ERes
  | .ptr b o, v, H => match H.get b with
    | some (.cells u z bs t) => match Nat.beq v.len k && Nat.ble (o + k) u && allOne v.cells with
      | true => .upd (.tup []) b (stBlk u z bs t v.cells o)
      | false => .fail
    | _ => .fail
  | _, _, _ => .fail
noncomputable def eStore (k : Nat) (x v : G) : Eff := fun F H _ => match x.f F with
  | some a => match v.f F with
    | some v => cStore k a v H
    | none => .fail
  | none => .fail
def cNilc : AV → ERes
  | .ptr b o => .val (.ptr b o)
  | .fn (.func f) a b => .val (.fn (.func f) a b)
  | .dp cs => .val (.dp cs)
  | .map b => .val (.map b)
  | .yld b => .val (.yld b)
  | _ => .fail
def eNilc (x : G) : Eff := fun F _ _ => match x.f F with
  | some v => cNilc v
  | none => .fail
/-- an operation of one, of two values -/
def e1 (c : AV → ERes) (x : G) : Eff := fun F _ _ => match x.f F with
  | some v => c v
  | none => .fail
def e2 (c : AV → AV → ERes) (x y : G) : Eff := fun F _ _ => match x.f F with
  | some a => match y.f F with
    | some b => c a b
    | none => .fail
  | none => .fail
noncomputable def vint (k : IntKind) (i : Int) : ERes := forceI i fun r => .val (.int k r)
noncomputable def int2 (c : IntKind → Int → Int → ERes) : AV → AV → ERes
  | .int k a, .int j b => if k = j then c k a b else .fail
  | _, _ => .fail
noncomputable def cAdd : AV → AV → ERes
  | .int k a, .int j b => if k = j then vint k (k.wrap (a + b)) else .fail
  | .str a, .str b => match Nat.ble (lenAcc a 0 + lenAcc b 0) big with
    | true => .val (.str (a ++ b))
    | false => .fail
  | _, _ => .fail
noncomputable def cArith (op : BinOp) (k : IntKind) (a b : Int) : ERes :=
  match op with
  | .sub => vint k (k.wrap (a - b))
  | .mul => vint k (k.wrap (a * b))
  | .quo => if b = 0 then .fail else vint k (k.wrap (a.tdiv b))
  | .rem => if b = 0 then .fail else vint k (a.tmod b)
  | .and => vint k (k.wrap (BitVec.ofInt k.bits a &&& BitVec.ofInt k.bits b).toNat)
  | .or => vint k (k.wrap (BitVec.ofInt k.bits a ||| BitVec.ofInt k.bits b).toNat)
  | .xor => vint k (k.wrap (BitVec.ofInt k.bits a ^^^ BitVec.ofInt k.bits b).toNat)
  | .andNot => vint k (k.wrap (BitVec.ofInt k.bits a &&& ~~~ BitVec.ofInt k.bits b).toNat)
  | _ => .fail
noncomputable def cCmp (op : BinOp) : AV → AV → ERes
  | .int k a, .int j b => if k = j then (match op with
    | .lss => .val (.bool (decide (a < b)))
    | .leq => .val (.bool (decide (a ≤ b)))
    | .gtr => .val (.bool (decide (a > b)))
    | .geq => .val (.bool (decide (a ≥ b)))
    | _ => .fail) else .fail
  | .str a, .str b => match op with
    | .lss => .val (.bool (lessNats a b))
    | .leq => .val (.bool (lessNats a b || eqNats a b))
    | .gtr => .val (.bool (!(lessNats a b || eqNats a b)))
    | .geq => .val (.bool (!lessNats a b))
    | _ => .fail
  | _, _ => .fail
noncomputable def cShift (op : BinOp) : AV → AV → ERes
  | .int k a, .int _ (.ofNat b) => match op with
    | .shl => vint k (k.wrap (a * 2 ^ (min b k.bits)))
    | .shr => vint k (a.fdiv (2 ^ (min b k.bits)))
    | _ => .fail
  | _, _ => .fail
noncomputable def cBin (op : BinOp) : AV → AV → ERes := match op with
  | .add => cAdd
  | .lss | .leq | .gtr | .geq => cCmp op
  | .shl | .shr => cShift op
  | _ => int2 (cArith op)
def cEq (neg : Bool) (q : EqK) (a b : AV) : ERes := match eqVal q a b with
  | some r => .val (.bool (neg != r))
  | none => .fail
/-- '==' of two structs of these leaves -/
def cEqA (neg : Bool) (ks : List LK) : AV → AV → ERes
  | .agg a n, .agg b m => match Nat.beq n ks.length && Nat.beq m ks.length with
    | true => match eqAtoms ks a b with
      | some r => .val (.bool (neg != r))
      | none => .fail
    | false => .fail
  | _, _ => .fail
noncomputable def cUn (op : UnOp) : AV → ERes
  | .bool b => match op with
    | .not => .val (.bool (!b))
    | _ => .fail
  | .int k a => match op with
    | .neg => vint k (k.wrap (0 - a))
    | .xor => vint k (k.wrap (BitVec.ofInt k.bits (if k.signed then -1 else k.max) ^^^ BitVec.ofInt k.bits a).toNat)
    | _ => .fail
  | _ => .fail
noncomputable def cToInt (k : IntKind) : AV → ERes
  | .int _ a => vint k (k.wrap a)
  | _ => .fail
def cSameS : AV → ERes
  | .str l => .val (.str l)
  | _ => .fail
def cMkif (t : TypeId) (v : AV) : ERes := .val (.ifc t v)
def cSame : AV → ERes
  | .str l => .val (.str l)
  | .sl b o len sz => .val (.sl b o len sz)
  | _ => .fail
noncomputable def eS2b (x : G) : Eff := fun F _ n => match x.f F with
  | some (.str l) => .new (.sl n 0 (lenAcc l 0) 1) (.cells (lenAcc l 0) [] (u8s l) .nil)
  | _ => .fail
noncomputable def cB2s : AV → Hp → ERes
  | .str _, _ => .fail
  | v, H => match sliceCells H 1 v with
    | some l => match bytesOf l with
      | some bs => .val (.str bs)
      | none => .fail
    | none => .fail
noncomputable def eB2s (x : G) : Eff := fun F H _ => match x.f F with
  | some v => cB2s v H
  | none => .fail
/-- a constant's bytes, as their own type: the block is marked behind its end -/
noncomputable def cS2s : AV → Hp → ERes
  | .sl b o len sz, H => match H.get b with
    | some (.cells u z bs t) => match Nat.blt 0 len with
      | true => .upd (.sl b o len sz) b (.cells u z bs t)
      | false => .fail
    | _ => .fail
  | _, _ => .fail
noncomputable def eS2s (x : G) : Eff := fun F H _ => match x.f F with
  | some v => cS2s v H
  | none => .fail
def eMkfn (f : Fn) (a b : List G) : Eff := fun F _ _ => match evs F a with
  | some a => match evs F b with
    | some b => .val (.fn f a b)
    | none => .fail
  | none => .fail
def eMkmap : Eff := fun _ _ n => .new (.map n) (.map [] 0)
noncomputable def cMksl (z : List AV) (sz by_ n : Nat) : AV → AV → ERes
  | .int _ (.ofNat l), .int _ (.ofNat c) => match Nat.ble l c && Nat.ble c big && Nat.ble (by_ * c) 281474976710656 with
    | true => .new (.sl n 0 l sz) (.cells (c * sz) z [] .nil)
    | false => .fail
  | _, _ => .fail
noncomputable def eMksl (z : List AV) (sz by_ : Nat) (x y : G) : Eff := fun F _ n => match x.f F with
  | some a => match y.f F with
    | some b => cMksl z sz by_ n a b
    | none => .fail
  | none => .fail
noncomputable def cSlc (sz : Nat) (lo hi mx : Option AV) : AV → ERes
  | .sl b o len s => match bnds len lo hi mx with
    | some (l, h) => match Nat.beq s sz with
      | true => forceN (o + l * sz) fun o' => forceN (h - l) fun len' => .val (.sl b o' len' sz)
      | false => .fail
    | none => .fail
  | .ds cs len s => match bnds len lo hi mx with
    | some (l, h) => match Nat.beq s sz with
      | true => .val (.ds ((cs.drop (l * sz)).take ((h - l) * sz)) (h - l) sz)
      | false => .fail
    | none => .fail
  | .cst (.slice none 0 0) => match bnds 0 lo hi mx with
    | some _ => .val (.cst (.slice none 0 0))
    | none => .fail
  | _ => .fail
noncomputable def cSlcs (lo hi mx : Option AV) : AV → ERes
  | .str s => match bnds (lenAcc s 0) lo hi mx with
    | some (l, h) => .val (.str ((s.drop l).take (h - l)))
    | none => .fail
  | _ => .fail
/-- a slice expression: the bounds, then the value -/
def eSl (c : Option AV → Option AV → Option AV → AV → ERes) (x : G) (lo hi mx : Option G) : Eff := fun F _ _ => match oev F lo with
  | some lo => match oev F hi with
    | some hi => match oev F mx with
      | some mx => match x.f F with
        | some v => c lo hi mx v
        | none => .fail
      | none => .fail
    | none => .fail
  | none => .fail
noncomputable def cSlca (k sz : Nat) (H : Hp) (lo hi mx : Option AV) : AV → ERes
  | .ptr b o => match H.get b with
    | some (.cells u _ _ _) => match bnds k lo hi mx with
      | some (l, h) => match Nat.ble (o + k * sz) u with
        | true => .val (.sl b (o + l * sz) (h - l) sz)
        | false => .fail
      | none => .fail
    | _ => .fail
  | _ => .fail
noncomputable def eSlca (k sz : Nat) (x : G) (lo hi mx : Option G) : Eff := fun F H n => eSl (cSlca k sz H) x lo hi mx F H n
def cArrat (k : Nat) : AV → ERes
  | .sl b o len _ => match Nat.ble k len && Nat.blt 0 k with
    | true => .val (.ptr b o)
    | false => .fail
  | _ => .fail
noncomputable def cAddo (k : Nat) : AV → ERes
  | .ptr b o => forceN (o + k) fun o' => .val (.ptr b o')
  | .dp cs => .val (.dp (cs.drop k))
  | _ => .fail
noncomputable def cFld1 (o : Nat) : AV → ERes
  | .agg cs _ => match nth cs o with
    | some v => .val v
    | none => .fail
  | _ => .fail
def cFldN (o k : Nat) : AV → ERes
  | .agg cs n => match Nat.ble (o + k) n with
    | true => .val (.agg ((cs.drop o).take k) k)
    | false => .fail
  | _ => .fail
noncomputable def cIxa (sz : Nat) : AV → AV → ERes
  | .sl b o len s, .int _ (.ofNat i) => match Nat.blt i len && Nat.beq s sz with
    | true => forceN (o + i * sz) fun o' => .val (.ptr b o')
    | false => .fail
  | .ds cs len s, .int _ (.ofNat i) => match Nat.blt i len && Nat.beq s sz with
    | true => .val (.dp (cs.drop (i * sz)))
    | false => .fail
  | _, _ => .fail
noncomputable def cIxarr (k sz : Nat) : AV → AV → ERes
  | .ptr b o, .int _ (.ofNat i) => match Nat.blt i k with
    | true => forceN (o + i * sz) fun o' => .val (.ptr b o')
    | false => .fail
  | _, _ => .fail
/-- an element of an array as a value -/
noncomputable def cIxv (n sz : Nat) (ag : Bool) (v : AV) : AV → ERes
  | .int _ (.ofNat i) => match Nat.blt i n with
    | true => match ag with
      | true => forceN (i * sz) fun o => cFldN o sz v
      | false => forceN (i * sz) fun o => cFld1 o v
    | false => .fail
  | _ => .fail
noncomputable def cIxs : AV → AV → ERes
  | .str l, .int _ (.ofNat i) => match nth l i with
    | some c => .val (.int .u8 (Int.ofNat c))
    | none => .fail
  | _, _ => .fail
noncomputable def cExt (i : Nat) : AV → ERes
  | .tup vs => match nth vs i with
    | some v => .val v
    | none => .fail
  | _ => .fail
noncomputable def cLenS : AV → ERes
  | .str l => .val (.int .i64 (Int.ofNat (lenAcc l 0)))
  | _ => .fail
def cLenL : AV → ERes
  | .sl _ _ len _ => .val (.int .i64 (Int.ofNat len))
  | .ds _ len _ => .val (.int .i64 (Int.ofNat len))
  | .cst (.slice none _ len) => match len with
    | 0 => .val (.int .i64 0)
    | _ => .fail
  | _ => .fail
noncomputable def cLenM : AV → Hp → ERes
  | .map b, H => match H.get b with
    | some (.map es _) => .val (.int .i64 (Int.ofNat (lenAcc es 0)))
    | _ => .fail
  | .cst (.map none), _ => .val (.int .i64 0)
  | _, _ => .fail
noncomputable def eLenM (x : G) : Eff := fun F H _ => match x.f F with
  | some v => cLenM v H
  | none => .fail
/-- texts in order -/
def cmpL : List Nat → List Nat → Int
  | [], [] => 0
  | [], _ :: _ => -1
  | _ :: _, [] => 1
  | a :: x, b :: y => match Nat.beq a b with
    | true => cmpL x y
    | false => match Nat.blt a b with
      | true => -1
      | false => 1
def cCmpS : AV → AV → ERes
  | .str a, .str b => .val (.int .i64 (cmpL a b))
  | _, _ => .fail
/-- append: onto the cells of a block -/
noncomputable def cApp2 (sz n b o len m : Nat) (new : List AV) : Option ABlk → ERes
  | some (.cells u z bs t) => match Nat.beq o 0 && Nat.ble (len * sz) u with
    | true => forceN (len + m) fun k => forceN (k * sz) fun u' => .mv (.sl n 0 k sz) b (.cells u' z bs (Ov.putAll new (len * sz) t))
    | false => match grab u z bs t o (len * sz) with
      | some old => .mv (.sl n 0 (len + m) sz) b (.cells ((len + m) * sz) [] (old ++ new) .nil)
      | none => .fail
  | _ => .fail
noncomputable def cApp1 (sz by_ n m : Nat) (new : List AV) (H : Hp) : AV → ERes
  | .sl b o len q => match Nat.beq m 0 with
    | true => .val (.sl b o len q)
    | false => match Nat.beq q sz && Nat.blt 0 sz && Nat.ble (len + m) big && Nat.ble by_ 4096 && allOne new with
      | true => cApp2 sz n b o len m new (H.get b)
      | false => .fail
  | .cst (.slice none 0 0) => match Nat.beq m 0 with
    | true => .val (.cst (.slice none 0 0))
    | false => match Nat.blt 0 sz && Nat.ble m big && Nat.ble by_ 4096 && allOne new with
      | true => .new (.sl n 0 m sz) (.cells (m * sz) [] new .nil)
      | false => .fail
  | _ => .fail
noncomputable def cApp (sz by_ n : Nat) (s x : AV) (H : Hp) : ERes := match sliceCells H sz x with
  | some new => match sliceLen x with
    | some m => cApp1 sz by_ n m new H s
    | none => .fail
  | none => .fail
noncomputable def eApp (sz by_ : Nat) (s x : G) : Eff := fun F H n => match s.f F with
  | some s => match x.f F with
    | some x => cApp sz by_ n s x H
    | none => .fail
  | none => .fail
noncomputable def cCpy (sz : Nat) (d s : AV) (H : Hp) : ERes := match d with
  | .sl b o len q => match sliceLen s, H.get b with
    | some m, some (.cells u z bs t) => match s with
      | .sl c p _ r => match H.get c with
        | some (.cells u' z' bs' t') => match grab u' z' bs' t' p (min m len * sz) with
          | some l => match Nat.beq q sz && Nat.beq r sz && Nat.ble (o + min m len * sz) u && allOne l with
            | true => .upd (.int .i64 (Int.ofNat (min m len))) b (.cells u z bs (Ov.putAll l o t))
            | false => .fail
          | none => .fail
        | _ => .fail
      | .str l => match Nat.beq q sz && Nat.beq sz 1 && Nat.ble (o + min m len) u with
        | true => .upd (.int .i64 (Int.ofNat (min m len))) b (.cells u z bs (Ov.putAll (u8s (l.take (min m len))) o t))
        | false => .fail
      | .cst (.slice none 0 0) => .val (.int .i64 0)
      | _ => .fail
    | _, _ => .fail
  | .cst (.slice none 0 0) => match sliceLen s with
    | some _ => .val (.int .i64 0)
    | none => .fail
  | _ => .fail
noncomputable def eCpy (sz : Nat) (d s : G) : Eff := fun F H _ => match d.f F with
  | some d => match s.f F with
    | some s => cCpy sz d s H
    | none => .fail
  | none => .fail
def eMnx (c : List AV → Option AV) (xs : List G) : Eff := fun F _ _ => match evs F xs with
  | some l => match c l with
    | some v => .val v
    | none => .fail
  | none => .fail
/-- a key of that kind -/
def isKey : LK → AV → Bool
  | .i, .int _ _ => true
  | .s, .str _ => true
  | _, _ => false
noncomputable def cLookup (q : LK) (z : AV) (ok : Bool) (m k : AV) (H : Hp) : ERes := match m with
  | .map b => match H.get b with
    | some (.map es _) => match isKey q k with
      | true => match findKey q k es with
        | some (some v) => .val (bif ok then .tup [v, .bool true] else v)
        | some none => .val (bif ok then .tup [z, .bool false] else z)
        | none => .fail
      | false => .fail
    | _ => .fail
  | _ => .fail
noncomputable def eLookup (q : LK) (z : AV) (ok : Bool) (x i : G) : Eff := fun F H _ => match x.f F with
  | some m => match i.f F with
    | some k => cLookup q z ok m k H
    | none => .fail
  | none => .fail
noncomputable def cMput (q : LK) (m k v : AV) (H : Hp) : ERes := match m with
  | .map b => match H.get b with
    | some (.map es c) => match isKey q k with
      | true => match setKey q k v es with
        | some (some es') => .upd (.tup []) b (.map es' c)
        | some none => .upd (.tup []) b (.map (es ++ [(k, v, c)]) (c + 1))
        | none => .fail
      | false => .fail
    | _ => .fail
  | _ => .fail
noncomputable def eMput (q : LK) (m k v : G) : Eff := fun F H _ => match m.f F with
  | some m => match k.f F with
    | some k => match v.f F with
      | some v => cMput q m k v H
      | none => .fail
    | none => .fail
  | none => .fail
def delKey (q : LK) (k : AV) : List (AV × AV × Nat) → Option (Option (List (AV × AV × Nat)))
  | [] => some none
  | e :: r => match eqLeaf q k e.1 with
    | some true => some (some r)
    | some false => match delKey q k r with
      | some (some r') => some (some (e :: r'))
      | some none => some none
      | none => none
    | none => none
noncomputable def cDel (q : LK) (m k : AV) (H : Hp) : ERes := match m with
  | .map b => match H.get b with
    | some (.map es c) => match isKey q k with
      | true => match delKey q k es with
        | some (some es') => .upd (.tup []) b (.map es' c)
        | some none => .upd (.tup []) b (.map es c)
        | none => .fail
      | false => .fail
    | _ => .fail
  | _ => .fail
noncomputable def eDel (q : LK) (m k : G) : Eff := fun F H _ => match m.f F with
  | some m => match k.f F with
    | some k => cDel q m k H
    | none => .fail
  | none => .fail
noncomputable def cClrM (m : AV) (H : Hp) : ERes := match m with
  | .map b => match H.get b with
    | some (.map _ c) => .upd (.tup []) b (.map [] c)
    | _ => .fail
  | .cst (.map none) => .val (.tup [])
  | _ => .fail
noncomputable def eClrM (m : G) : Eff := fun F H _ => match m.f F with
  | some m => cClrM m H
  | none => .fail
def repZ (z : List AV) : Nat → List AV
  | 0 => []
  | n + 1 => z ++ repZ z n
noncomputable def clrIt (z : List AV) (sz o : Nat) (t : Ov AV) (n : Nat) : Ov AV := Nat.rec (motive := fun _ => Ov AV) t (fun i ih => Ov.putAll z (Nat.add o (Nat.mul i sz)) ih) n
/-- great elements: one by one -/
noncomputable def clrPut (z : List AV) (sz len o : Nat) (t : Ov AV) : Ov AV := match Nat.ble 48 sz with
  | true => clrIt z sz o t len
  | false => Ov.putAll (repZ z len) o t
noncomputable def cClrS (z : List AV) (sz : Nat) (s : AV) (H : Hp) : ERes := match s with
  | .sl b o len q => match len with
    | 0 => .val (.tup [])
    | _ => match H.get b with
      | some (.cells u z' bs t) => match Nat.beq q sz && Nat.ble (o + len * sz) u with
        | true => .upd (.tup []) b (.cells u z' bs (clrPut z sz len o t))
        | false => .fail
      | _ => .fail
  | .cst (.slice none 0 0) => .val (.tup [])
  | _ => .fail
noncomputable def eClrS (z : List AV) (sz : Nat) (s : G) : Eff := fun F H _ => match s.f F with
  | some s => cClrS z sz s H
  | none => .fail
/-! going through a map -/
noncomputable def cRng (m : AV) (H : Hp) (n : Nat) : ERes := match m with
  | .map b => match H.get b with
    | some (.map _ c) => .new (.ptr n 0) (.iter (some b) c [] c)
    | _ => .fail
  | .cst (.map none) => .new (.ptr n 0) (.iter none 0 [] 0)
  | _ => .fail
noncomputable def eRng (m : G) : Eff := fun F H n => match m.f F with
  | some m => cRng m H n
  | none => .fail
def hasN (b : Nat) : List Nat → Bool
  | [] => false
  | a :: l => match Nat.beq a b with
    | true => true
    | false => hasN b l
/-- those not yet gone through -/
def leftE (seen : List Nat) : List (AV × AV × Nat) → List (AV × AV × Nat)
  | [] => []
  | e :: l => match hasN e.2.2 seen with
    | true => leftE seen l
    | false => e :: leftE seen l
def allBorn (last : Nat) : List (AV × AV × Nat) → Bool
  | [] => true
  | e :: l => match Nat.ble last e.2.2 with
    | true => allBorn last l
    | false => false
def goneE (seen : List Nat) (last : Nat) (es : List (AV × AV × Nat)) : Bool := match seen with
  | [] => false
  | _ :: _ => match es with
    | [] => false
    | _ :: _ => allBorn last es
noncomputable def cNxt (it : AV) (H : Hp) : ERes := match it with
  | .ptr r 0 => match H.get r with
    | some (.iter none _ _ _) => .val (.tup [.bool false])
    | some (.iter (some m) since seen last) => match H.get m with
      | some (.map es clock) => match goneE seen last es with
        | true => .fail
        | false => match leftE seen es with
          | [] => .val (.tup [.bool false])
          | [e] => match Nat.blt e.2.2 since with
            | true => .upd (.tup [.bool true, e.1, e.2.1]) r (.iter (some m) since (seen ++ [e.2.2]) clock)
            | false => .fail
          | _ => .fail
      | _ => .fail
    | _ => .fail
  | _ => .fail
noncomputable def eNxt (it : G) : Eff := fun F H _ => match it.f F with
  | some v => cNxt v H
  | none => .fail
def lastN : List Nat → Option Nat
  | [] => none
  | [a] => some a
  | _ :: l => lastN l
def findB (b : Nat) : List (AV × AV × Nat) → Option (AV × AV)
  | [] => none
  | e :: l => match Nat.beq e.2.2 b with
    | true => some (e.1, e.2.1)
    | false => findB b l
noncomputable def cEnt (it : AV) (H : Hp) : ERes := match it with
  | .ptr r 0 => match H.get r with
    | some (.iter (some m) _ seen stepped) => match H.get m with
      | some (.map es clock) => match Nat.beq clock stepped with
        | true => match lastN seen with
          | some b => match findB b es with
            | some (k, v) => .val (.tup [k, v])
            | none => .fail
          | none => .fail
        | false => .fail
      | _ => .fail
    | _ => .fail
  | _ => .fail
noncomputable def eEnt (it : G) : Eff := fun F H _ => match it.f F with
  | some v => cEnt v H
  | none => .fail
def oldAll (since : Nat) : List (AV × AV × Nat) → Bool
  | [] => true
  | e :: l => match Nat.blt e.2.2 since with
    | true => oldAll since l
    | false => false
/-- the one at place c of those left -/
noncomputable def cNxtC (c : Nat) (it : AV) (H : Hp) : ERes := match it with
  | .ptr r 0 => match H.get r with
    | some (.iter (some m) since seen last) => match H.get m with
      | some (.map es clock) => match leftE seen es with
        | _ :: _ :: _ => match goneE seen last es with
          | true => .fail
          | false => match oldAll since (leftE seen es) with
            | true => match nth (leftE seen es) c with
              | some e => .upd (.tup [.bool true, e.1, e.2.1]) r (.iter (some m) since (seen ++ [e.2.2]) clock)
              | none => .fail
            | false => .fail
        | _ => cNxt it H
      | _ => cNxt it H
    | _ => cNxt it H
  | _ => cNxt it H
noncomputable def eNxtC (c : Nat) (it : G) : Eff := fun F H _ => match it.f F with
  | some v => cNxtC c v H
  | none => .fail
end Go.Abs
