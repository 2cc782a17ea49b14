/- The abstract machine: code as a function; a program's functions. -/
import Derived.Test.YtfjkegbmlagleaaGreatAbsK
namespace Go.Abs

/-! ### code -/
structure Pd where
  f : AV → Fr → Fr
noncomputable def opK (pd : Pd) (e : Eff) (next : K) : K := .mk <| fun ce F H n m =>
  ERes.rec (motive := fun _ => Res) .fail
    (fun v => next.f ce (pd.f v F) H n m)
    (fun v k => next.f ce (pd.f v F) (H.put n (some k)) (Nat.succ n) m)
    (fun v b k => next.f ce (pd.f v F) (H.put b (some k)) n m)
    (fun v b k => next.f ce (pd.f v F) ((H.put b none).put n (some k)) (Nat.succ n) m) (e F H n)
def nopK (pd : Pd) (next : K) : K := .mk <| fun ce F H n m => next.f ce (pd.f (.tup []) F) H n m
def guardK (g : G) (want : Bool) (yes no : K) : K := .mk <| fun ce F H n m => match g.f F with
  | some (.bool b) => bif b == want then yes.f ce F H n m else no.f ce F H n m
  | some _ => no.f ce F H n m
  | none => .fail
def endK : K := .mk <| fun _ F H n m => .mk .normal F H n m
def seqK (a b : K) : K := .mk <| fun ce F H n m => match a.f ce F H n m with
  | .mk .normal F' H' n' m' => b.f ce F' H' n' m'
  | r => r
def condK (g : G) (a b : K) : K := .mk <| fun ce F H n m => match g.f F with
  | some (.bool true) => a.f ce F H n m
  | some (.bool false) => b.f ce F H n m
  | _ => .fail
def blockK (i : Nat) (b : K) : K := .mk <| fun ce F H n m => match b.f ce F H n m with
  | .mk (.exit j) F' H' n' m' => bif Nat.beq i j then .mk .normal F' H' n' m' else .mk (.exit j) F' H' n' m'
  | r => r
noncomputable def loopN (b : K) (ce : Ce) (k : Nat) : Fr → Hp → Nat → List Nat → Res :=
  Nat.rec (motive := fun _ => Fr → Hp → Nat → List Nat → Res) (fun _ _ _ _ => .fail) (fun _ ih F H n m => match b.f ce F H n m with
    | .mk .normal F' H' n' m' => ih F' H' n' m'
    | r => r) k
noncomputable def loopK (b : K) : K := .mk <| fun ce F H n m => loopN b ce big F H n m
def exitK (i : Nat) : K := .mk <| fun _ F H n m => .mk (.exit i) F H n m
def retK : K := .mk <| fun _ F H n m => .mk .ret F H n m
def failK : K := .mk <| fun _ _ _ _ _ => .fail
noncomputable def putsF (nt : Nat) : List Nat → List AV → Fr → Option Fr
  | [], [], F => some F
  | p :: ps, v :: vs, F => match Nat.blt p nt with
    | true => putsF nt ps vs (F.put p (some v))
    | false => none
  | _, _, _ => none
noncomputable def yieldK (pd : Pd) (q : Nat) (args : List AV) (next : K) : K := .mk <| fun ce F H n m => match H.get q with
  | some (.loop _ _ nt F0 ps a b) => match putsF nt ps args F0 with
    | some F1 => match ce.code nt a F1 H n with
      | .mk .normal F2 H2 n2 [] => match H2.get q with
        | some (.loop .ready j2 nt2 G2 ps2 a2 b2) => match ce.code nt b F2 (H2.put q (some (.loop .busy j2 nt2 G2 ps2 a2 b2))) n2 with
          | .mk j _ H3 n3 _ => match H3.get q with
            | some (.loop _ _ nt3 G3 ps3 a3 b3) => match j with
              | .normal => next.f ce (pd.f (.bool true) F) (H3.put q (some (.loop .ready .normal nt3 G3 ps3 a3 b3))) n3 m
              | .exit i => next.f ce (pd.f (.bool false) F) (H3.put q (some (.loop .done (.exit i) nt3 G3 ps3 a3 b3))) n3 m
              | .ret => next.f ce (pd.f (.bool false) F) (H3.put q (some (.loop .done .ret nt3 G3 ps3 a3 b3))) n3 m
            | _ => .fail
          | _ => .fail
        | _ => .fail
      | _ => .fail
    | none => .fail
  | _ => .fail
noncomputable def callK (pd : Pd) (g : G) (args : List G) (next : K) : K := .mk <| fun ce F H n m => match g.f F with
  | some (.fn (.func f) first cap) => match evs F args with
    | some as => match ce.call f (first ++ (as ++ cap)) H n with
      | .mk v H' n' => next.f ce (pd.f v F) H' n' m
      | .fail => .fail
    | none => .fail
  | some (.yld q) => match evs F args with
    | some as => (yieldK pd q as next).f ce F H n m
    | none => .fail
  | _ => .fail
/-- a range over a function: the loop's record under n, the block for deferred calls under n + 1 -/
noncomputable def rangeK (nt : Nat) (g : G) (ps : List Nat) (a b : Code) : K := .mk <| fun ce F H n m => match g.f F with
  | some (.fn (.func f) first cap) =>
    match ce.call f (first ++ (.yld n :: cap)) ((H.put (Nat.succ n) (some .defd)).put n (some (.loop .ready .normal nt F ps a b))) (Nat.succ (Nat.succ n)) with
    | .mk _ H' n' => match H'.get n with
      | some (.loop .busy _ _ _ _ _ _) => .fail
      | some (.loop _ j _ _ _ _ _) => .mk j F (H'.put n none) n' (Nat.succ n :: m)
      | _ => .fail
    | .fail => .fail
  | _ => .fail

/-! ### from the program's code -/
def avAtom : Value → Option AV
  | .int k n => some (.int k n)
  | .bool b => some (.bool b)
  | .string s => some (.str (s.data.toList.map UInt8.toNat))
  | v => if atom v then some (.cst v) else none
def avAtoms : List Value → Option (List AV)
  | [] => some []
  | v :: r => match avAtom v with
    | some a => match avAtoms r with
      | some l => some (a :: l)
      | none => none
    | none => none
noncomputable def avOf : Value → Option AV
  | .agg cs => (avAtoms cs.toList).map fun l => .agg l (lenAcc l 0)
  | .tuple ⟨[]⟩ => some (.tup [])
  | .iface t v => (avAtom v).map (.ifc t)
  | v => avAtom v
def constG (v : AV) : G := ⟨fun _ => some v⟩
noncomputable def slotG (t : Nat) : G := ⟨(Tr.getK (Nat.succ t) t).f⟩
noncomputable def opd : Operand → Option G
  | .tmp t => some (slotG t)
  | .const v => (avOf v).map constG
  | .func f => some (constG (.fn (.func f) [] []))
  | .global _ => none
noncomputable def opds : List Operand → Option (List G)
  | [] => some []
  | x :: r => match opd x with
    | some a => match opds r with
      | some l => some (a :: l)
      | none => none
    | none => none
noncomputable def oopd : Option Operand → Option (Option G)
  | none => some none
  | some x => (opd x).map some

def sizeT (P : Program) (t : TypeId) : Option Nat := (P.info? t).map (·.size)
def bytesT (P : Program) (t : TypeId) : Option Nat := (P.info? t).map (·.bytes)
def zeroT (P : Program) (t : TypeId) : Option (List AV) := match P.info? t with
  | some i => match i.zero with
    | some z => avAtoms z.cells.toList
    | none => none
  | none => none
def aggT (P : Program) (t : TypeId) : Option Bool :=
  match P.underlying t with
  | some (.struct _) | some (.array _ _) => some true
  | some _ => some false
  | none => none
/-- the fields of a struct that is compared cell by cell: the leaves, behind those of the fields ahead -/
def leavesL (P : Program) (r : TypeId → Option (List LK)) : List Field → Nat → Option (List LK)
  | [], _ => some []
  | f :: fs, s => if f.name = "_" then none else if f.offset = s then (match r f.type with
    | some k => if sizeT P f.type = some k.length then (match leavesL P r fs (s + k.length) with
      | some l => some (k ++ l)
      | none => none) else none
    | none => none) else none
/-- the leaves of a type that is compared cell by cell: none, if it is not of ints, bools, strings and structs of them -/
def leaves (P : Program) : Nat → TypeId → Option (List LK)
  | 0, _ => none
  | d + 1, t => match P.underlying t with
    | some .bool => some [.b]
    | some (.int _) => some [.i]
    | some .string => some [.s]
    | some (.struct fs) => if P.stoodInHeld t then none else leavesL P (leaves P d) fs.toList 0
    | _ => none
def isCst : Operand → Bool
  | .const _ => true
  | _ => false
def eqKind (P : Program) (cst : Bool) (t : TypeId) : Option EqK := match P.underlying t with
  | some (.int _) => some .num
  | some .string => some .num
  | some .bool => some .bool
  | some (.pointer e) => match sizeT P e with
    | some (_ + 1) => some .ptr
    | _ => none
  | some (.slice _) => some .slice
  | some (.map _ _) => some .map
  | some (.func _ _ _) => some .func
  | some (.interface _) => some (if cst then .ifacen else .iface)
  | _ => none
def compField (P : Program) (s : TypeId) (f : Nat) : Option (Nat × TypeId) := match P.underlying s with
  | some (.struct fs) => match fs[f]? with
    | some fd => match sizeT P fd.type with
      | some (_ + 1) => some (fd.offset, fd.type)
      | _ => none
    | none => none
  | _ => none
def elemT (P : Program) (t : TypeId) : Option TypeId := match P.underlying t with
  | some (.slice e) => some e
  | _ => none
noncomputable def compParts (place : Nat → Option (Nat × Nat)) : List (Nat × Operand) → Option (List (Nat × Nat × G))
  | [] => some []
  | (i, x) :: r => match place i with
    | some (o, s) => match opd x with
      | some a => match compParts place r with
        | some l => some ((o, s, a) :: l)
        | none => none
      | none => none
    | none => none
def isEq : BinOp → Bool
  | .eql => true
  | .neq => true
  | _ => false
def isNeq : BinOp → Bool
  | .neq => true
  | _ => false
noncomputable def compBin (P : Program) (op : BinOp) (t : TypeId) (x y : Operand) : Option Eff :=
  match opd x with
  | some a => match opd y with
    | some b => match isEq op with
      | true => match P.underlying t with
        | some (.struct _) => match leaves P 20 t with
          | some k => if P.eqGuardType P.depth t then none else some (e2 (cEqA (isNeq op) k) a b)
          | none => none
        | _ => match eqKind P (isCst x || isCst y) t with
          | some q => some (e2 (cEq (isNeq op) q) a b)
          | none => none
      | false => some (e2 (cBin op) a b)
    | none => none
  | none => none
noncomputable def compConv (P : Program) (s d : TypeId) (x : Operand) : Option Eff := do
  let a ← opd x
  match P.underlying s, P.underlying d with
  | some (.int _), some (.int k) => some (e1 (cToInt k) a)
  | some .string, some .string => some (e1 cSameS a)
  | some .string, some (.slice e) => match P.underlying e with
    | some (.int .u8) => some (eS2b a)
    | _ => none
  | some (.slice e), some .string => match P.underlying e with
    | some (.int .u8) => some (eB2s a)
    | _ => none
  | some (.slice _), some (.slice e) => match P.underlying e with
    | some (.int .u8) => if s = d then some (eS2s a) else none
    | _ => none
  | _, _ => none
def keyK (P : Program) (k : TypeId) : Option LK := match P.underlying k with
  | some (.int _) => some .i
  | some .string => some .s
  | _ => none
noncomputable def compBuiltin (P : Program) (c : Call) : Builtin → Option Eff
  | .len => do
    let t ← c.argTypes[0]?
    let x ← c.args[0]?
    match P.underlying t with
    | some (.array n _) => some fun _ _ _ => .val (.int .i64 (Int.ofNat n))
    | some (.pointer arr) => match P.underlying arr with
      | some (.array n _) => some fun _ _ _ => .val (.int .i64 (Int.ofNat n))
      | _ => none
    | some .string => some (e1 cLenS (← opd x))
    | some (.slice _) => some (e1 cLenL (← opd x))
    | some (.map _ _) => some (eLenM (← opd x))
    | _ => none
  | .append => do
    let t ← c.argTypes[0]?
    let u ← c.argTypes[1]?
    let s ← c.args[0]?
    let x ← c.args[1]?
    let e ← elemT P t
    match P.underlying u with
    | some (.int _) | none => none
    | _ => match zeroT P e with
      | some z => match sizeT P e with
        | some sz => if z.length = sz then do some (eApp sz (← bytesT P e) (← opd s) (← opd x)) else none
        | none => none
      | none => none
  | .copy => do
    let t ← c.argTypes[0]?
    let d ← c.args[0]?
    let s ← c.args[1]?
    let e ← elemT P t
    some (eCpy (← sizeT P e) (← opd d) (← opd s))
  | .clear => do
    let t ← c.argTypes[0]?
    let x ← c.args[0]?
    match P.underlying t with
    | some (.map _ _) => some (eClrM (← opd x))
    | some (.slice e) => do
      let z ← zeroT P e
      if allOne z then some (eClrS z z.length (← opd x)) else none
    | _ => none
  | .delete => do
    let t ← c.argTypes[0]?
    let x ← c.args[0]?
    let y ← c.args[1]?
    match P.underlying t with
    | some (.map k _) => do some (eDel (← keyK P k) (← opd x) (← opd y))
    | _ => none
  | .min => do some (eMnx minI (← opds c.args.toList))
  | .max => do some (eMnx maxI (← opds c.args.toList))
  | _ => none
/-- a function without a body -/
noncomputable def compExt (P : Program) (f : FuncId) (args : List Operand) : Option Eff := match P.funcs[f]? with
  | some fn => match fn.body with
    | none => if fn.name = "internal/bytealg.abigen_runtime_cmpstring" ∧ fn.origin = "" then (match args with
      | [x, y] => do some (e2 cCmpS (← opd x) (← opd y))
      | _ => none) else none
    | some _ => none
  | none => none
noncomputable def compOp (P : Program) (o : Oper) : Option Eff :=
  match o.op with
  | .move x | .assign x => (opd x).map eMov
  | .pick c a b => do some (ePick (← opd c) (← opd a) (← opd b))
  | .alloc e => (zeroT P e).map fun z => eAlloc z (lenAcc z 0)
  | .box _ x => (opd x).map eBox
  | .build t ps => do
    let z ← zeroT P t
    match P.underlying t with
    | some (.struct fs) =>
      match fs.toList.mapM (fun f => (P.info? f.type).map fun i => (f.offset, i.size)) with
      | some places => (compParts (fun i => places[i]?) ps.toList).map (eBuild z (lenAcc z 0))
      | none => none
    | some (.array _ e) =>
      match P.info? e with
      | some ie => (compParts (fun i => some (i * ie.size, ie.size)) ps.toList).map (eBuild z (lenAcc z 0))
      | none => none
    | _ => none
  | .buildSlice t n ps => do
    let e ← elemT P t
    let k ← sizeT P e
    let z ← zeroT P e
    let l ← compParts (fun i => some (i * k, k)) ps.toList
    if z.length = k && n * k ≤ 16777216 then some (eBslice z n k l) else none
  | .load t a => do
    let x ← opd a
    if ← aggT P t then some (eLoadN (← sizeT P t) x) else some (eLoad1 x)
  | .store t a v => do some (eStore (← sizeT P t) (← opd a) (← opd v))
  | .nilCheck x => (opd x).map eNilc
  | .binOp op t x y _ => compBin P op t x y
  | .unOp op _ x => (opd x).map (e1 (cUn op))
  | .convert s d x => compConv P s d x
  | .sliceToArrayPointer arr x => match P.underlying arr with
    | some (.array n _) => (opd x).map (e1 (cArrat n))
    | _ => none
  | .makeInterface t x => match P.underlying t with
    | some (.interface _) | none => none
    | _ => (opd x).map (e1 (cMkif t))
  | .makeFunc f a b => do some (eMkfn f (← opds a.toList) (← opds b.toList))
  | .makeMap _ none => some eMkmap
  | .makeMap t (some (.const (.int _ _))) => match P.underlying t with
    | some (.map _ _) => some eMkmap
    | _ => none
  | .lookup t x i ok => match P.underlying t with
    | some (.map k e) => do
      let z ← (P.info? e).bind (·.zero)
      some (eLookup (← keyK P k) (← avOf z) ok (← opd x) (← opd i))
    | _ => none
  | .mapUpdate t m k v | .insert t m k v => match P.underlying t with
    | some (.map q _) => do some (eMput (← keyK P q) (← opd m) (← opd k) (← opd v))
    | _ => none
  | .makeSlice t l c => do
    let e ← elemT P t
    let z ← zeroT P e
    let k ← sizeT P e
    if z.length = k then some (eMksl z k (← bytesT P e) (← opd l) (← opd c)) else none
  | .slice t x lo hi mx =>
    match P.underlying t with
    | some .string => match mx with
      | none => do some (eSl cSlcs (← opd x) (← oopd lo) (← oopd hi) none)
      | some _ => none
    | some (.slice e) => if mx.isNone || hi.isSome then do some (eSl (cSlc (← sizeT P e)) (← opd x) (← oopd lo) (← oopd hi) (← oopd mx)) else none
    | some (.array n e) => if mx.isNone || hi.isSome then do some (eSlca n (← sizeT P e) (← opd x) (← oopd lo) (← oopd hi) (← oopd mx)) else none
    | _ => none
  | .fieldAddr s x f => do
    let (off, _) ← compField P s f
    some (e1 (cAddo off) (← opd x))
  | .field s x f => do
    let (off, ft) ← compField P s f
    let a ← opd x
    if ← aggT P ft then some (e1 (cFldN off (← sizeT P ft)) a) else some (e1 (cFld1 off) a)
  | .indexAddr t x i =>
    match P.underlying t with
    | some (.slice e) => do some (e2 (cIxa (← sizeT P e)) (← opd x) (← opd i))
    | some (.array n e) => do some (e2 (cIxarr n (← sizeT P e)) (← opd x) (← opd i))
    | _ => none
  | .index t x i =>
    match P.underlying t with
    | some .string => do some (e2 cIxs (← opd x) (← opd i))
    | some (.array n e) => do some (e2 (cIxv n (← sizeT P e) (← aggT P e)) (← opd x) (← opd i))
    | _ => none
  | .extract t i => do some (e1 (cExt i) (← opd t))
  | .call c => match c.callee with
    | .builtin b => compBuiltin P c b
    | .value (.func f) => compExt P f c.args.toList
    | _ => none
  | .range t x => match P.underlying t with
    | some (.map _ _) => (opd x).map eRng
    | _ => none
  | .next x false => (opd x).map eNxt
  | .entry x => (opd x).map eEnt
  | _ => none

/-- the method of a type's values, by its name: of a pointer type one with a pointer's receiver, else one with a value's -/
def methT (P : Program) (t : TypeId) (name : String) : Option FuncId := match P.info? t with
  | some ti => match ti.methods.find? (·.name == name) with
    | some m => match m.path.toList with
      | [] => match m.func with
        | some (f, pr) => match P.underlying t with
          | some (.pointer _) => if pr then some f else none
          | some _ => if pr then none else some f
          | none => none
        | none => none
      | _ => none
    | none => none
  | none => none
def invG (P : Program) (name : String) (g : G) : G := ⟨fun F => match g.f F with
  | some (.ifc t v) => match methT P t name with
    | some f => some (.fn (.func f) [v] [])
    | none => none
  | _ => none⟩
noncomputable def compPd (nt : Nat) : Option Tmp → Option Pd
  | none => some ⟨fun _ F => F⟩
  | some d => if d < nt then some ⟨fun v F => (Tr.putK (Nat.succ d) d).f (some v) F⟩ else none

/-- an operation, unguarded, in front of next -/
noncomputable def compIn (P : Program) (pd : Pd) (o : Oper) (next : K) : K :=
  match o.op with
  | .call { callee := .value f, args, argTypes := _ } => match compOp P o with
    | some e => opK pd e next
    | none => match opd f, opds args.toList with
      | some g, some as => callK pd g as next
      | _, _ => failK
  | .call { callee := .invoke x name, args, argTypes := _ } => match opd x, opds args.toList with
    | some g, some as => callK pd (invG P name g) as next
    | _, _ => failK
  | _ => match compOp P o with
    | some e => opK pd e next
    | none => failK
noncomputable def compOne (P : Program) (nt : Nat) (ops : Array Oper) (o : Oper) (next : K) : K :=
  match compPd nt o.dst with
  | none => failK
  | some pd => match o.guard with
    | none => compIn P pd o next
    | some (j, b) => match (ops[j]?).bind (·.dst) with
      | some d => guardK (slotG d) b (compIn P pd o next) (nopK pd next)
      | none => failK
noncomputable def compOps (P : Program) (nt : Nat) (ops : Array Oper) : List Oper → K
  | [] => endK
  | o :: r => compOne P nt ops o (compOps P nt ops r)

/-! ### a region that draws its order: laid out in one order, by phases; what may come earlier is asked at each phase -/
structure KR where
  f : Ce → Fr → Hp → List Hp → Nat → List Nat → Res
structure RS where
  f : Fr → Fr
inductive PItem where
  | op (i e : Nat)
  | mod (i : Nat)
  | pur (i : Nat)
  | flt (i : Nat)
def rsNil : RS := ⟨fun _ => .nil⟩
noncomputable def rsCons (t : Nat) (r : RS) : RS := ⟨fun F => (Tr.putK (Nat.succ t) t).f ((slotG t).f F) (r.f F)⟩
noncomputable def rsOf : List Nat → RS
  | [] => rsNil
  | t :: l => rsCons t (rsOf l)
noncomputable def clearF : List Nat → Fr → Fr
  | [], F => F
  | t :: l, F => clearF l ((Tr.putK (Nat.succ t) t).f none F)
def cstEq : Value → Value → Bool
  | .pointer none, .pointer none => true
  | .slice none 0 0, .slice none 0 0 => true
  | .nilIface, .nilIface => true
  | .nilFunc, .nilFunc => true
  | .map none, .map none => true
  | _, _ => false
def avEq0 : AV → AV → Bool
  | .int j a, .int k b => decide (j = k) && decide (a = b)
  | .bool a, .bool b => a == b
  | .str a, .str b => eqNats a b
  | .ptr a o, .ptr b p => Nat.beq a b && Nat.beq o p
  | .sl a o l s, .sl b p m r => Nat.beq a b && Nat.beq o p && Nat.beq l m && Nat.beq s r
  | .map a, .map b => Nat.beq a b
  | .cst x, .cst y => cstEq x y
  | .fn (.func f) [] [], .fn (.func g) [] [] => Nat.beq f g
  | _, _ => false
def avEq1 : AV → AV → Bool
  | .ifc t v, .ifc u w => Nat.beq t u && avEq0 v w
  | v, w => avEq0 v w
def avsEq : List AV → List AV → Bool
  | [], [] => true
  | a :: x, b :: y => match avEq1 a b with
    | true => avsEq x y
    | false => false
  | _, _ => false
def avEqF : AV → AV → Bool
  | .agg a n, .agg b m => Nat.beq n m && avsEq a b
  | v, w => avEq1 v w
open Classical in
/-- the same value: told by computing; else, to be shown -/
noncomputable def avEq (v w : AV) : Bool := match avEqF v w with
  | true => true
  | false => decide (v = w)
/-- at each of the first k heaps the same value -/
noncomputable def allVal (e : Eff) (F : Fr) (n : Nat) : Nat → List Hp → Option AV
  | 0, _ => none
  | _ + 1, [] => none
  | k + 1, A :: As => match e F A n with
    | .val v => match k with
      | 0 => some v
      | _ => match allVal e F n k As with
        | some u => match avEq v u with
          | true => some u
          | false => none
        | none => none
    | _ => none
noncomputable def noneAt (n : Nat) : List Hp → Bool
  | [] => true
  | A :: As => match A.get n with
    | none => noneAt n As
    | some _ => false
noncomputable def opR (rs : RS) (pd : Pd) (e : Eff) (cnt : Nat) (next : KR) : KR := .mk <| fun ce F H Hs n m => match e (rs.f F) .nil n with
  | .val v => next.f ce (pd.f v F) H Hs n m
  | .new v k => match noneAt n Hs with
    | true => next.f ce (pd.f v F) (H.put n (some k)) Hs (Nat.succ n) m
    | false => .fail
  | .fail => match allVal e (rs.f F) n cnt Hs with
    | some v => next.f ce (pd.f v F) H Hs n m
    | none => .fail
  | _ => .fail
def nopR (pd : Pd) (next : KR) : KR := .mk <| fun ce F H Hs n m => next.f ce (pd.f (.tup []) F) H Hs n m
def nopM (pd : Pd) (next : KR) : KR := .mk <| fun ce F H Hs n m => next.f ce (pd.f (.tup []) F) H (H :: Hs) n m
noncomputable def modR (rs : RS) (pd : Pd) (e : Eff) (next : KR) : KR := .mk <| fun ce F H Hs n m => match e (rs.f F) H n with
  | .val v => next.f ce (pd.f v F) H (H :: Hs) n m
  | .new v k => next.f ce (pd.f v F) (H.put n (some k)) (H.put n (some k) :: Hs) (Nat.succ n) m
  | .upd v b k => next.f ce (pd.f v F) (H.put b (some k)) (H.put b (some k) :: Hs) n m
  | .mv v b k => next.f ce (pd.f v F) ((H.put b none).put n (some k)) ((H.put b none).put n (some k) :: Hs) (Nat.succ n) m
  | .fail => .fail
def callR (rs : RS) (pd : Pd) (g : G) (args : List G) (next : KR) : KR := .mk <| fun ce F H Hs n m => match g.f (rs.f F) with
  | some (.fn (.func f) first cap) => match evs (rs.f F) args with
    | some as => match ce.call f (first ++ (as ++ cap)) H n with
      | .mk v H' n' => next.f ce (pd.f v F) H' (H' :: Hs) n' m
      | .fail => .fail
    | none => .fail
  | _ => .fail
def guardR (rs : RS) (g : G) (want : Bool) (yes no : KR) : KR := .mk <| fun ce F H Hs n m => match g.f (rs.f F) with
  | some (.bool b) => bif b == want then yes.f ce F H Hs n m else no.f ce F H Hs n m
  | some _ => no.f ce F H Hs n m
  | none => .fail
/-- a store that may run at any time behind the last of the modifiers in line: its block is taken out of the heap that is asked -/
noncomputable def fltR (rs : RS) (pd : Pd) (e : Eff) (next : KR) : KR := .mk <| fun ce F H Hs n m => match Hs with
  | [] => .fail
  | B :: l => match e (rs.f F) B n with
    | .upd v b k => match B.get b with
      | some _ => next.f ce (pd.f v F) (H.put b (some k)) (B.put b none :: l) n m
      | none => .fail
    | _ => .fail
def endR : KR := .mk <| fun _ F H _ n m => .mk .normal F H n m
def failR : KR := .mk <| fun _ _ _ _ _ _ => .fail

def tmpsOf : List Operand → List Nat
  | [] => []
  | .tmp t :: l => t :: tmpsOf l
  | _ :: l => tmpsOf l
/-- the slots that an operation looks at -/
def slotsOf (ops : Array Oper) (o : Oper) : List Nat := match o.guard with
  | none => tmpsOf o.op.operands.toList
  | some (j, _) => match (ops[j]?).bind (·.dst) with
    | some d => d :: tmpsOf o.op.operands.toList
    | none => tmpsOf o.op.operands.toList
noncomputable def inR (P : Program) (rs : RS) (pd : Pd) (o : Oper) (cnt : Nat) (next : KR) : KR := match compOp P o with
  | some e => opR rs pd e cnt next
  | none => failR
noncomputable def inM (P : Program) (rs : RS) (pd : Pd) (o : Oper) (next : KR) : KR := match o.op with
  | .call { callee := .value f, args, argTypes := _ } => match compOp P o with
    | some e => modR rs pd e next
    | none => match opd f, opds args.toList with
      | some g, some as => callR rs pd g as next
      | _, _ => failR
  | .call { callee := .invoke x name, args, argTypes := _ } => match opd x, opds args.toList with
    | some g, some as => callR rs pd (invG P name g) as next
    | _, _ => failR
  | _ => match compOp P o with
    | some e => modR rs pd e next
    | none => failR
noncomputable def inF (P : Program) (rs : RS) (pd : Pd) (o : Oper) (next : KR) : KR := match o.op with
  | .store _ _ _ => match compOp P o with
    | some e => fltR rs pd e next
    | none => failR
  | _ => failR
noncomputable def guarded (ops : Array Oper) (rs : RS) (o : Oper) (yes no : KR) : KR := match o.guard with
  | none => yes
  | some (j, b) => match (ops[j]?).bind (·.dst) with
    | some d => guardR rs (slotG d) b yes no
    | none => failR
noncomputable def compR (P : Program) (nt : Nat) (ops : Array Oper) : List PItem → Nat → KR
  | [], _ => endR
  | .op i e :: l, j => match ops[i]? with
    | some o => match compPd nt o.dst with
      | some pd => guarded ops (rsOf (slotsOf ops o)) o (inR P (rsOf (slotsOf ops o)) pd o (Nat.succ (Nat.sub j e)) (compR P nt ops l j)) (nopR pd (compR P nt ops l j))
      | none => failR
    | none => failR
  | .mod i :: l, j => match ops[i]? with
    | some o => match compPd nt o.dst with
      | some pd => guarded ops (rsOf (slotsOf ops o)) o (inM P (rsOf (slotsOf ops o)) pd o (compR P nt ops l (Nat.succ j))) (nopM pd (compR P nt ops l (Nat.succ j)))
      | none => failR
    | none => failR
  | .pur i :: l, j => match ops[i]? with
    | some o => match compPd nt o.dst with
      | some pd => guarded ops (rsOf (slotsOf ops o)) o (inR P (rsOf (slotsOf ops o)) pd o 0 (compR P nt ops l j)) (nopR pd (compR P nt ops l j))
      | none => failR
    | none => failR
  | .flt i :: l, j => match ops[i]? with
    | some o => match compPd nt o.dst with
      | some pd => match o.guard with
        | none => inF P (rsOf (slotsOf ops o)) pd o (compR P nt ops l j)
        | some _ => failR
      | none => failR
    | none => failR
/-! the order -/
def tb (m i : Nat) : Bool := Nat.beq (Nat.land (Nat.shiftRight m i) 1) 1
noncomputable def ancE (T : Tr Nat) : List Edge → Nat → Nat
  | [], s => s
  | e :: l, s => match Region.binds .any e with
    | true => ancE T l (Nat.lor (Nat.lor s (Nat.shiftLeft 1 e.on)) (osel (T.get e.on) 0 id))
    | false => ancE T l s
/-- of each operation: those that come ahead of it in whatever order -/
noncomputable def ancT : List Oper → Nat → Tr Nat → Tr Nat
  | [], _, T => T
  | o :: l, i, T => ancT l (Nat.succ i) (forceN (ancE T o.after.toList 0) fun m => T.put i (some m))
def isModOp : Op → Bool
  | .call { callee := .value _, args := _, argTypes := _ } => true
  | .call { callee := .invoke _ _, args := _, argTypes := _ } => true
  | .call { callee := .builtin .append, args := _, argTypes := _ } => true
  | .call { callee := .builtin .copy, args := _, argTypes := _ } => true
  | .call { callee := .builtin .delete, args := _, argTypes := _ } => true
  | .store _ _ _ => true
  | .mapUpdate _ _ _ _ => true
  | .insert _ _ _ _ => true
  | .call { callee := .builtin .clear, args := _, argTypes := _ } => true
  | .next _ _ => true
  | _ => false
noncomputable def ancOf (T : Tr Nat) (i : Nat) : Nat := osel (T.get i) 0 id
noncomputable def earl (T : Tr Nat) (i : Nat) : List Nat → Nat
  | [] => 0
  | q :: l => bif tb (ancOf T i) q then Nat.succ (earl T i l) else 0
/-- operations of the mask s and not in the mask t, from i on -/
noncomputable def group (T : Tr Nat) (mods : List Nat) (s t mm : Nat) : List Oper → Nat → List PItem → List PItem
  | [], _, r => r
  | _ :: l, i, r => bif tb s i && !tb t i && !tb mm i then .op i (earl T i mods) :: group T mods s t mm l (Nat.succ i) r else group T mods s t mm l (Nat.succ i) r
noncomputable def groupP (s t mm : Nat) : List Oper → Nat → List PItem → List PItem
  | [], _, r => r
  | _ :: l, i, r => bif tb s i && !tb t i && !tb mm i then .pur i :: groupP s t mm l (Nat.succ i) r else groupP s t mm l (Nat.succ i) r
def fltsL : List Nat → List PItem
  | [] => []
  | q :: l => .flt q :: fltsL l
noncomputable def planGo (T : Tr Nat) (mods fl : List Nat) (mm all : Nat) (ops : List Oper) : List Nat → Nat → List PItem
  | [], seen => match fl with
    | [] => group T mods all seen mm ops 0 []
    | q :: l => groupP all seen mm ops 0 (fltsL (q :: l))
  | q :: l, seen => group T mods (ancOf T q) seen mm ops 0 (.mod q :: planGo T mods fl mm all ops l (Nat.lor (Nat.lor seen (ancOf T q)) (Nat.shiftLeft 1 q)))
noncomputable def allAnc (T : Tr Nat) (q : Nat) : List Nat → Bool
  | [] => true
  | x :: l => bif tb (ancOf T x) q then allAnc T q l else false
/-- the modifiers that stand in line, and the rest -/
noncomputable def splitM (T : Tr Nat) : List Nat → List Nat × List Nat
  | [] => ([], [])
  | q :: l => match allAnc T q l with
    | true => match splitM T l with
      | (a, b) => (q :: a, b)
    | false => ([], q :: l)
def modsOf : List Oper → Nat → List Nat
  | [], _ => []
  | o :: l, i => bif isModOp o.op then i :: modsOf l (Nat.succ i) else modsOf l (Nat.succ i)
def maskOf : List Nat → Nat
  | [] => 0
  | q :: l => Nat.lor (Nat.shiftLeft 1 q) (maskOf l)
noncomputable def plan (T : Tr Nat) (ops : List Oper) : List PItem :=
  match splitM T (modsOf ops 0) with
  | (ch, fl) => planGo T ch fl (maskOf (modsOf ops 0)) (Nat.sub (Nat.shiftLeft 1 (lenAcc ops 0)) 1) ops ch 0
/-! what is asked of it -/
/-- the slots that are written, and by which operation; none: one twice -/
noncomputable def dstT : List Oper → Nat → Tr Nat → Option (Tr Nat)
  | [], _, T => some T
  | o :: l, i, T => match o.dst with
    | none => dstT l (Nat.succ i) T
    | some d => match T.get d with
      | none => dstT l (Nat.succ i) (T.put d (some i))
      | some _ => none
def backE : List Edge → Nat → Bool
  | [], _ => true
  | e :: l, i => match Region.binds .any e with
    | true => bif Nat.blt e.on i then backE l i else false
    | false => backE l i
def backs : List Oper → Nat → Bool
  | [], _ => true
  | o :: l, i => backE o.after.toList i && backs l (Nat.succ i)
/-- the slots that an assignment writes -/
noncomputable def asgT : List Oper → Tr Nat → Tr Nat
  | [], T => T
  | o :: l, T => match o.op with
    | .assign _ => match o.dst with
      | some d => asgT l (T.put d (some 0))
      | none => asgT l T
    | _ => asgT l T
/-- a slot is read behind its writer; one that an assignment writes: ahead of it, and it has not run -/
noncomputable def slotsOk (T D E : Tr Nat) (i seen : Nat) : List Nat → Bool
  | [] => true
  | t :: l => match D.get t with
    | none => slotsOk T D E i seen l
    | some p => match E.get t with
      | none => bif tb (ancOf T i) p then slotsOk T D E i seen l else false
      | some _ => bif tb (ancOf T p) i && !tb seen p then slotsOk T D E i seen l else false
def grpOk (m : Nat) : List Nat → Bool
  | [] => true
  | p :: l => bif tb m p then grpOk m l else false
noncomputable def fltsOk (T D E : Tr Nat) (ops : Array Oper) (mods : List Nat) : List PItem → (seen : Nat) → Bool
  | [], _ => true
  | .flt i :: l, seen => match ops[i]? with
    | some o => slotsOk T D E i seen (slotsOf ops o) && (match mods with
      | [] => true
      | q :: _ => tb (ancOf T i) q) && fltsOk T D E ops mods l (Nat.lor seen (Nat.shiftLeft 1 i))
    | none => false
  | _ :: _, _ => false
noncomputable def planOk (T D E : Tr Nat) (ops : Array Oper) : List PItem → (mods grp bad : List Nat) → (seen : Nat) → Bool
  | [], _, _, _, _ => true
  | .flt i :: l, mods, _, bad, seen => match bad with
    | [] => fltsOk T D E ops mods (.flt i :: l) seen
    | _ :: _ => false
  | .pur i :: l, mods, grp, bad, seen => match ops[i]? with
    | some o => slotsOk T D E i seen (slotsOf ops o) && planOk T D E ops l mods (i :: grp) bad (Nat.lor seen (Nat.shiftLeft 1 i))
    | none => false
  | .op i e :: l, mods, grp, bad, seen => match ops[i]? with
    | some o => slotsOk T D E i seen (slotsOf ops o) && (match e with
      | 0 => true
      | _ => Nat.ble e (lenAcc mods 0) && osel (nth mods (Nat.sub (lenAcc mods 0) e)) false (fun q => tb (ancOf T i) q)) && planOk T D E ops l mods (i :: grp) (i :: bad) (Nat.lor seen (Nat.shiftLeft 1 i))
    | none => false
  | .mod i :: l, mods, grp, _, seen => match ops[i]? with
    | some o => slotsOk T D E i seen (slotsOf ops o) && grpOk (ancOf T i) grp && (match mods with
      | [] => true
      | q :: _ => tb (ancOf T i) q) && planOk T D E ops l (i :: mods) [] [] (Nat.lor seen (Nat.shiftLeft 1 i))
    | none => false
def idxOf : PItem → Nat
  | .op i _ => i
  | .mod i => i
  | .pur i => i
  | .flt i => i
/-- each once -/
def onceIn : List PItem → Nat → Option Nat
  | [], s => some s
  | x :: l, s => bif tb s (idxOf x) then none else onceIn l (Nat.lor s (Nat.shiftLeft 1 (idxOf x)))
def isAsg : Op → Bool
  | .assign _ => true
  | _ => false
/-- the slots that are written other than by an assignment -/
def dstsOf : List Oper → List Nat
  | [] => []
  | o :: l => match isAsg o.op with
    | true => dstsOf l
    | false => match o.dst with
      | some d => d :: dstsOf l
      | none => dstsOf l
noncomputable def planAll (T : Tr Nat) (ops : Array Oper) (pl : List PItem) : Bool :=
  backs ops.toList 0 && (match dstT ops.toList 0 .nil with
    | some D => planOk T D (asgT ops.toList .nil) ops pl [] [] [] 0
    | none => false) && (match onceIn pl 0 with
    | some s => Nat.beq s (Nat.sub (Nat.shiftLeft 1 (lenAcc ops.toList 0)) 1)
    | none => false)
noncomputable def regK (P : Program) (nt : Nat) (ops : Array Oper) (pl : List PItem) (ok : Bool) : K := match ok with
  | true => .mk <| fun ce F H n m => (compR P nt ops pl 0).f ce (clearF (dstsOf ops.toList) F) H [H] n m
  | false => failK
noncomputable def drawK (P : Program) (nt : Nat) (ops : Array Oper) (T : Tr Nat) : K := regK P nt ops (plan T ops.toList) (planAll T ops (plan T ops.toList))

/-! ### a range over a map: whichever entry comes next; behind the loop: what is the same whichever came -/
def eqVs (f : AV → AV → Bool) : List AV → List AV → Bool
  | [], [] => true
  | a :: x, b :: y => match f a b with
    | true => eqVs f x y
    | false => false
  | _, _ => false
def eqV : Nat → AV → AV → Bool
  | 0, _, _ => false
  | k + 1, a, b => match a, b with
    | .agg x n, .agg y m => Nat.beq n m && eqVs (eqV k) x y
    | .tup x, .tup y => eqVs (eqV k) x y
    | .ifc t v, .ifc u w => Nat.beq t u && eqV k v w
    | .fn (.func f) a b, .fn (.func g) c d => Nat.beq f g && eqVs (eqV k) a c && eqVs (eqV k) b d
    | .yld a, .yld b => Nat.beq a b
    | .ds x n s, .ds y m t => Nat.beq n m && Nat.beq s t && eqVs (eqV k) x y
    | .dp x, .dp y => eqVs (eqV k) x y
    | a, b => avEq0 a b
def eqO {α : Type} (eq : α → α → Bool) : Option α → Option α → Bool
  | none, none => true
  | some a, some b => eq a b
  | _, _ => false
noncomputable def eqT {α : Type} (eq : α → α → Bool) (t : Tr α) : Tr α → Bool :=
  Tr.rec (motive := fun _ => Tr α → Bool) (fun u => match u with
    | .nil => true
    | .node _ _ _ => false) (fun v _ _ il ir u => match u with
    | .nil => false
    | .node v' l' r' => match eqO eq v v' with
      | true => match il l' with
        | true => ir r'
        | false => false
      | false => false) t
noncomputable def eqOv : Ov AV → Ov AV → Bool
  | .nil, .nil => true
  | .tr v l r, .tr v' l' r' => eqT (eqV 4) (.node v l r) (.node v' l' r')
  | .ch s c o, .ch s' c' o' => Nat.beq s s' && eqT (eqVs (eqV 4)) c c' && eqT (eqV 4) o o'
  | _, _ => false
def esEq : List (AV × AV × Nat) → List (AV × AV × Nat) → Bool
  | [], [] => true
  | a :: x, b :: y => eqV 4 a.1 b.1 && eqV 4 a.2.1 b.2.1 && Nat.beq a.2.2 b.2.2 && esEq x y
  | _, _ => false
noncomputable def blkEq : ABlk → ABlk → Bool
  | .cells u z bs t, .cells u' z' bs' t' => Nat.beq u u' && eqVs (eqV 4) z z' && eqVs (eqV 4) bs bs' && eqOv t t'
  | .map es c, .map es' c' => Nat.beq c c' && esEq es es'
  | .defd, .defd => true
  | _, _ => false
def meetO {α : Type} (eq : α → α → Bool) : Option α → Option α → Option α
  | some a, some b => match eq a b with
    | true => some a
    | false => none
  | _, _ => none
noncomputable def meetT {α : Type} (eq : α → α → Bool) (t : Tr α) : Tr α → Tr α :=
  Tr.rec (motive := fun _ => Tr α → Tr α) (fun _ => .nil) (fun v _ _ il ir u => match u with
    | .nil => .nil
    | .node v' l' r' => .node (meetO eq v v') (il l') (ir r')) t
def outEq : AOut → AOut → Bool
  | .normal, .normal => true
  | .exit i, .exit j => Nat.beq i j
  | .ret, .ret => true
  | _, _ => false
noncomputable def meetAll : Res → List Res → Res
  | r, [] => r
  | .mk o F H n m, .mk o' F' H' n' m' :: rs => match outEq o o' && eqNats m m' with
    | true => match meetAll (.mk o' F' H' n' m') rs with
      | .mk _ F2 H2 n2 _ => .mk o (meetT (eqV 4) F F2) (meetT blkEq H H2) (max n n2) m
      | .fail => .fail
    | false => .fail
  | _, _ => .fail
/-- how many there are -/
noncomputable def nxtCnt (x : G) (F : Fr) (H : Hp) : Nat := match x.f F with
  | some (.ptr r 0) => match H.get r with
    | some (.iter (some m) _ seen _) => match H.get m with
      | some (.map es _) => lenAcc (leftE seen es) 0
      | _ => 0
    | _ => 0
  | _ => 0
noncomputable def altsM (step : Nat → Option (List Res)) : Nat → List Res → Option (List Res)
  | 0, acc => some acc
  | c + 1, acc => match step c with
    | some l => altsM step c (l ++ acc)
    | none => none
noncomputable def loopM (x : G) (b : Nat → K) (ce : Ce) (k : Nat) : Fr → Hp → Nat → List Nat → Option (List Res) :=
  Nat.rec (motive := fun _ => Fr → Hp → Nat → List Nat → Option (List Res)) (fun _ _ _ _ => none) (fun _ ih F H n m => altsM (fun c => match (b c).f ce F H n m with
    | .mk .normal F' H' n' m' => ih F' H' n' m'
    | .fail => none
    | r => some [r]) (Nat.succ (Nat.pred (nxtCnt x F H))) []) k
noncomputable def loopMK (x : G) (b : Nat → K) : K := .mk <| fun ce F H n m => match loopM x b ce big F H n m with
  | some (r :: rs) => meetAll r rs
  | _ => .fail
/-- a region that begins with a step through a map -/
def mapHd : Code → Option (Operand × Tmp × Array Oper × List Oper)
  | .region _ ops false => match ops.toList with
    | o :: os => match o.op, o.guard, o.dst with
      | .next x false, none, some d => some (x, d, ops, os)
      | _, _, _ => none
    | [] => none
  | _ => none
noncomputable def mapK (P : Program) (nt : Nat) (x : Operand) (d : Tmp) (ops : Array Oper) (os : List Oper) (rest : K) : K := match opd x with
  | some g => match compPd nt (some d) with
    | some pd => loopMK g fun c => seqK (opK pd (eNxtC c g) (compOps P nt ops os)) rest
    | none => failK
  | none => failK
noncomputable def comp (P : Program) (nt : Nat) (rd : Bool) : Code → K
  | .skip => endK
  | .region _ ops d => bif d then (bif P.follows .mixedOrders then drawK P nt ops (ancT ops.toList 0 .nil) else failK) else compOps P nt ops ops.toList
  | .seq a b => seqK (comp P nt rd a) (comp P nt rd b)
  | .cond c a b => match opd c with
    | some x => condK x (comp P nt rd a) (comp P nt rd b)
    | none => failK
  | .block id b => blockK id (comp P nt rd b)
  | .loop (.seq a rest) => match mapHd a with
    | some (x, d, ops, os) => mapK P nt x d ops os (comp P nt rd rest)
    | none => loopK (seqK (comp P nt rd a) (comp P nt rd rest))
  | .loop b => loopK (comp P nt rd b)
  | .exit id => exitK id
  | .ret => retK
  | .scope b => comp P nt rd b
  | .label _ => endK
  | .rangeFunc f ps a b => match opd f with
    | some x => bif rd then failK else rangeK nt x ps.toList a b
    | none => failK
  | _ => failK

noncomputable def getRes (P : Program) : List ResultVar → Option (List (Fr → Hp → Option AV))
  | [] => some []
  | .tmp t :: r => (getRes P r).map ((fun F _ => (slotG t).f F) :: ·)
  | .cell a t :: r => match getRes P r, aggT P t, sizeT P t with
    | some l, some true, some k => some ((fun F H => match (slotG a).f F with
      | some v => match cLoadN k v H with
        | .val v => some v
        | _ => none
      | none => none) :: l)
    | some l, some false, some _ => some ((fun F H => match (slotG a).f F with
      | some v => match cLoad1 v H with
        | .val v => some v
        | _ => none
      | none => none) :: l)
    | _, _, _ => none
def evR (F : Fr) (H : Hp) : List (Fr → Hp → Option AV) → Option (List AV)
  | [] => some []
  | x :: r => match x F H with
    | some v => match evR F H r with
      | some l => some (v :: l)
      | none => none
    | none => none
def retV : List AV → AV
  | [v] => v
  | l => .tup l
noncomputable def unmark : List Nat → Hp → Option Hp
  | [], H => some H
  | m :: r, H => match H.get m with
    | some .defd => unmark r (H.put m none)
    | _ => none

noncomputable def leaveK (rs : List (Fr → Hp → Option AV)) : Res → CRes
  | .mk .normal F H n m => leave2 F H n m
  | .mk .ret F H n m => leave2 F H n m
  | .mk (.exit _) _ _ _ _ => .fail
  | .fail => .fail
  where leave2 (F : Fr) (H : Hp) (n : Nat) (m : List Nat) : CRes := match unmark m H with
  | some H' => match evR F H' rs with
    | some vs => .mk (retV vs) H' n
    | none => .fail
  | none => .fail

structure AF where
  res : List (Fr → Hp → Option AV)
  code : K
  nt : Nat

noncomputable def compF (P : Program) (g : FuncId) : Option AF := match P.funcs[g]? with
  | some fn => match fn.body with
    | some b => match fn.name == "runtime.NumGoroutine" with
      | true => none
      | false => match getRes P fn.results.toList with
        | some r => some { res := r, code := comp P fn.ntmps false b, nt := fn.ntmps }
        | none => none
    | none => none
  | none => none

noncomputable def run (P : Program) : Nat → Ce
  | 0 => { call := fun _ _ _ _ => .fail, code := fun _ _ _ _ _ => .fail }
  | f + 1 => {
      call := fun g args H n => match compF P g with
        | some af => match Nat.ble (lenAcc args 0) af.nt with
          | true => leaveK af.res (af.code.f (run P f) (Tr.putAll args 0 .nil) H n [])
          | false => .fail
        | none => .fail
      code := fun nt c F H n => (comp P nt true c).f (run P f) F H n [] }

end Go.Abs
