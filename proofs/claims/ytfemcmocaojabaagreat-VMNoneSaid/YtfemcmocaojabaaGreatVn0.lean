/- The states between the pieces of a long run. -/
import Derived.Test.YtfemcmocaojabaaGreatAbs6
import Derived.Test.YtfemcmocaojabaaGreatRows
namespace Go.Abs
open Go.Proofs Go.Proofs.YtfemcmocaojabaaGreat
set_option maxRecDepth 100000

def vmC : List AV := [.int .i64 1, .int .i64 0, .int .i64 0, .int .i64 0, .int .i64 0, .int .i64 0, .int .i64 0, .int .u32 1, .int .i64 0, .int .i64 0, .bool false, .bool false, .int .i64 0, .int .i64 0, .str [], .int .i64 8, .int .i64 0, .int .i64 0, .int .i64 0, .int .i64 0, .int .i64 0, .int .i64 0, .int .u32 0, .int .i64 0, .int .i64 0, .bool false, .bool false, .int .i64 0, .int .i64 0, .str [], .int .i64 10, .int .i64 0, .int .i64 0, .int .i64 0, .int .i64 0, .int .i64 1, .int .i64 0, .int .u32 0, .int .i64 0, .int .i64 0, .bool false, .bool false, .int .i64 0, .int .i64 0, .str []]
def vmCode : AV := .agg [.int .i64 0, .int .i64 1, .ds vmC 3 15] 3
def vmWorld : AV := .agg [.ds [.int .u32 1, .str [116], .ds [.str [97], .int .i64 1, .bool false] 1 3, .int .u32 1] 1 4, .cst (.slice none 0 0), .ds [.ds [.ds [.int .i64 1, .int .i64 1, .str []] 1 3, .ds [.int .i64 1, .int .i64 2, .str []] 1 3, .ds [.int .i64 1, .int .i64 2, .str []] 1 3] 3 1] 1 1] 3
def vmArgs : List AV := [vmCode, vmWorld, .int .i64 100000]
def vmOut : AV := .tup [.agg [.bool true, .int .i64 8194, .int .i64 4, .cst (.slice none 0 0), .cst (.slice none 0 0)] 5, .int .i64 0]
noncomputable def vmRows (j : Nat) : List AV → List AV := Nat.rec (motive := fun _ => List AV → List AV) (fun acc => acc) (fun i ih acc => forceN (110 + 9 * i) fun b => ih (.sl b 0 0 3 :: acc)) j
noncomputable def vmF : Fr := ((((Tr.nil : Fr).put 2 (some (.int .i64 100000))).put 6 (some (.ptr 2 0))).put 8 (some (.ptr 98 0)))
/-- behind 1 + 2 j steps -/
noncomputable def vmS (j : Nat) : ASt := forceN (107 + 9 * j) fun n => forceN (103 + 9 * j) fun rb =>
  ⟨vmF, ((((((Tr.nil : Hp).put 2 (some (.cells 5 [] [.bool false, .int .i64 0, .int .i64 0, .cst (.slice none 0 0), .cst (.slice none 0 0)] .nil))).put 95 (some (.cells 45 [] vmC .nil))).put 96 (some (.cells 0 [] [] .nil))).put 98 (some (.cells 13 [] [.int .i64 0, .int .i64 1, .sl 95 0 3 15, .ifc 84 vmWorld, .int .i64 1, .sl 96 0 0 3, .sl 97 0 1 5, .int .i64 (Int.ofNat (1 + 2 * j)), .bool false, .bool false, .int .i64 0, .sl rb 0 j 1, .cst (.slice none 0 0)] .nil))).put rb (some (.cells j [] (vmRows j []) .nil))), n⟩
/-- ahead of the loop -/
noncomputable def vmS0 : ASt :=
  ⟨vmF, (((((Tr.nil : Hp).put 2 (some (.cells 5 [] [.bool false, .int .i64 0, .int .i64 0, .cst (.slice none 0 0), .cst (.slice none 0 0)] .nil))).put 95 (some (.cells 45 [] vmC .nil))).put 96 (some (.cells 0 [] [] .nil))).put 97 (some (.cells 5 [] [.cst .nilIface, .cst (.slice none 0 0), .int .u32 0, .int .i64 0, .bool false] .nil))).put 98 (some (.cells 13 [] [.int .i64 0, .int .i64 1, .sl 95 0 3 15, .ifc 84 vmWorld, .int .i64 0, .sl 96 0 0 3, .sl 97 0 1 5, .int .i64 0, .bool false, .bool false, .int .i64 0, .cst (.slice none 0 0), .cst (.slice none 0 0)] .nil)), 99⟩
end Go.Abs
