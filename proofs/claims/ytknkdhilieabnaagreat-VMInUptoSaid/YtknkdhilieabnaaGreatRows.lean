/-
  No cell of these rows narrows 'for every input' (looked for: loops, veiled, ifaces, maps, wideKeys, modest, calm, conditions, laid).
  DERIVED. THE GIVEN ROWS OF THIS SEAT. 2 by the template 'for every input the law returns true; each argument reads behind the call as it read before'; 0 by the template 'total and deterministic' (their statements: YtknkdhilieabnaaGreatTotals.lean).
  GIVEN WITH THE SEED: the statements are not yours to turn. If you find one false, say at which input.
  Laid BY PROGRAM, IN A SANDBOX (cutbox-rows.mjs): the forced cells as the released guide's own fill.sh prints them over the translation f76b14ad62f07b18… (all of the seat's roots in one cut). By AI agents, Wed Nov 11 2026. No macro, syntax, notation, axiom, sorry.
-/
import Derived.Test.YtknkdhilieabnaaGreatChecked
import GoSem.Claim
import GoSem.ClaimJoined
import GoSem.ClaimMapViews
import Derived.JoinedTies
import Derived.KernelRfl
namespace Go.Proofs.YtknkdhilieabnaaGreat
/- THE CELL 'sum', in the pinned program and in every row, IS THE sha256 OF THE DUMP (.gsa) THAT YtknkdhilieabnaaGreatProg.lean LOADS. Nothing in Lean hashes anything: it is a label: what it is worth is what the hold of that sum in a sandbox is worth. -/
noncomputable def Tryz.pinned : Pinned := { name := "ytknkdhilieabnaagreat", sum := "f76b14ad62f07b1850e8ea49d46a9868ac10278619a6d2e9de49287f641ad7e3", checked := Tryz.checked }
namespace Rows
def none {H : Type} : Left H := { results := [], args := [] }

/-- 'cadastrelaw25.VMIn': WHATEVER THE INPUT: true; the input reads as it did. -/
def vMInSpec : ChangeSpec := { name := "vMIn", fn := fun _ => fun
  | [d1, d2, d3] => { results := [.lit (.bool true)], args := [d1, d2, d3] }
  | _ => none }
def vMInRow : OpenClaim := { program := "ytknkdhilieabnaagreat", sum := "f76b14ad62f07b1850e8ea49d46a9868ac10278619a6d2e9de49287f641ad7e3", func := "cadastre/cadastrelaw25.VMIn", spec := "vMIn", inPlace := ["internal/bytealg.abigen_runtime_cmpstring"], unfollowed := true, recurses := true, apart := false }
def VMInSaid : Prop := vMInRow.holds Tryz.pinned (OpenSpec.ofChange vMInSpec)

/-- ITS FALSE NEIGHBOUR: 'it returns false'. Refute it at one input. -/
def vMInWrong : ChangeSpec := { name := "vMIn", fn := fun _ => fun
  | [d1, d2, d3] => { results := [.lit (.bool false)], args := [d1, d2, d3] }
  | _ => none }
def VMInWrongFalsely : Prop := vMInRow.holds Tryz.pinned (OpenSpec.ofChange vMInWrong)

/-- 'cadastrelaw25.VMNone': WHATEVER THE INPUT: true; the input reads as it did. -/
def vMNoneSpec : ChangeSpec := { name := "vMNone", fn := fun _ => fun
  | [] => { results := [.lit (.bool true)], args := [] }
  | _ => none }
def vMNoneRow : OpenClaim := { program := "ytknkdhilieabnaagreat", sum := "f76b14ad62f07b1850e8ea49d46a9868ac10278619a6d2e9de49287f641ad7e3", func := "cadastre/cadastrelaw25.VMNone", spec := "vMNone", inPlace := ["internal/bytealg.abigen_runtime_cmpstring"], unfollowed := true, recurses := true, apart := false }
def VMNoneSaid : Prop := vMNoneRow.holds Tryz.pinned (OpenSpec.ofChange vMNoneSpec)

/-- ITS FALSE NEIGHBOUR: 'it returns false'. Refute it at one input. -/
def vMNoneWrong : ChangeSpec := { name := "vMNone", fn := fun _ => fun
  | [] => { results := [.lit (.bool false)], args := [] }
  | _ => none }
def VMNoneWrongFalsely : Prop := vMNoneRow.holds Tryz.pinned (OpenSpec.ofChange vMNoneWrong)

/- THE SECOND FORM. 'bulk': how many values and letters a reading holds, each counted each time it is reached (what is shared counts as often as it is met; a slice's spare places count too). A statement '..UptoSaid' is the law's where the arguments, and the package variables that the reading takes, are together of bulk at most 1048576: NARROWER than '..Said'. Prove '..Said' where nothing that the law and all that it calls make is longer than what came in: it says more and counts as full. Else prove '..UptoSaid'. A law counts once. -/
mutual
def uptoBulk {H : Type} : DataW H → Nat
  | .lit (.string bytes) => bytes.length + 1
  | .lit _ => 1
  | .nil => 1
  | .ptr d => uptoBulk d + 1
  | .slice elems spare => uptoBulkAll elems + uptoBulkAll spare + 1
  | .agg parts => uptoBulkAll parts + 1
  | .iface _ d => uptoBulk d + 1
  | .map entries => uptoBulkEntries entries + 1
  | .held _ => 1
def uptoBulkAll {H : Type} : List (DataW H) → Nat
  | [] => 0
  | d :: r => uptoBulk d + uptoBulkAll r
def uptoBulkEntries {H : Type} : List (Lit × DataW H) → Nat
  | [] => 0
  | x :: r => uptoBulkEntry x + uptoBulkEntries r
def uptoBulkEntry {H : Type} : Lit × DataW H → Nat
  | (.string bytes, d) => bytes.length + uptoBulk d + 1
  | (_, d) => uptoBulk d + 1
 end
def uptoSmall : (H : Type) → List (DataW H) → Bool := fun _ ds => decide (uptoBulkAll ds ≤ 1048576)
def OpenSpec.upto (s : _root_.Go.ChangeSpec) : _root_.Go.OpenSpec := { _root_.Go.OpenSpec.ofChange s with cond := some uptoSmall }

/-- 'cadastrelaw25.VMIn', WHERE WHAT IT READS IS OF BULK AT MOST 1048576: true; the input reads as it did. -/
def vMInUptoRow : OpenClaim := { program := "ytknkdhilieabnaagreat", sum := "f76b14ad62f07b1850e8ea49d46a9868ac10278619a6d2e9de49287f641ad7e3", func := "cadastre/cadastrelaw25.VMIn", spec := "vMIn", inPlace := ["internal/bytealg.abigen_runtime_cmpstring"], unfollowed := true, recurses := true, apart := false, narrowed := true }
def VMInUptoSaid : Prop := vMInUptoRow.holds Tryz.pinned (OpenSpec.upto vMInSpec)

/-- 'cadastrelaw25.VMNone', WHERE WHAT IT READS IS OF BULK AT MOST 1048576: true; the input reads as it did. -/
def vMNoneUptoRow : OpenClaim := { program := "ytknkdhilieabnaagreat", sum := "f76b14ad62f07b1850e8ea49d46a9868ac10278619a6d2e9de49287f641ad7e3", func := "cadastre/cadastrelaw25.VMNone", spec := "vMNone", inPlace := ["internal/bytealg.abigen_runtime_cmpstring"], unfollowed := true, recurses := true, apart := false, narrowed := true }
def VMNoneUptoSaid : Prop := vMNoneUptoRow.holds Tryz.pinned (OpenSpec.upto vMNoneSpec)

end Rows
end Go.Proofs.YtknkdhilieabnaaGreat
