/-
  NARROWER THAN 'FOR EVERY INPUT', by the rows' own cells (each row's printed sentence says how): ModelGoes: loops · ModelThree: loops · ModelTurned: loops · ModelOne: loops · ModelApplies: loops.
  DERIVED. THE GIVEN ROWS OF THIS SEAT. 5 by the template 'for every input the law returns true; each argument reads behind the call as it read before'; 0 by the template 'total and deterministic' (their statements: YtlhafglnokpioaaGreatTotals.lean).
  GIVEN WITH THE SEED: the statements are not yours to turn. If you find one false, say at which input.
  Laid BY PROGRAM, IN A SANDBOX (cutbox-rows.mjs): the forced cells as the released guide's own fill.sh prints them over the translation 19f962ede502a0ea… (all of the seat's roots in one cut). By AI agents, Wed Nov 11 2026. No macro, syntax, notation, axiom, sorry.
-/
import Derived.Test.YtlhafglnokpioaaGreatChecked
import GoSem.Claim
import GoSem.ClaimJoined
import GoSem.ClaimMapViews
import Derived.JoinedTies
import Derived.KernelRfl
namespace Go.Proofs.YtlhafglnokpioaaGreat
/- THE CELL 'sum', in the pinned program and in every row, IS THE sha256 OF THE DUMP (.gsa) THAT YtlhafglnokpioaaGreatProg.lean LOADS. Nothing in Lean hashes anything: it is a label: what it is worth is what the hold of that sum in a sandbox is worth. -/
noncomputable def Tryz.pinned : Pinned := { name := "ytlhafglnokpioaagreat", sum := "19f962ede502a0eac0cc6b566f64fee792d76dbe12bb5ccb2a9e3fc207594ded", checked := Tryz.checked }
namespace Rows
def none {H : Type} : Left H := { results := [], args := [] }

/-- 'cadastrelaw22.ModelGoes': WHATEVER THE INPUT: true; the input reads as it did. -/
def modelGoesSpec : ChangeSpec := { name := "modelGoes", fn := fun _ => fun
  | [d] => { results := [.lit (.bool true)], args := [d] }
  | _ => none }
def modelGoesRow : OpenClaim := { program := "ytlhafglnokpioaagreat", sum := "19f962ede502a0eac0cc6b566f64fee792d76dbe12bb5ccb2a9e3fc207594ded", func := "cadastre/cadastrelaw22.ModelGoes", spec := "modelGoes", inPlace := ["internal/bytealg.abigen_runtime_cmpstring"], unfollowed := true, recurses := true, loops := true, apart := false }
def ModelGoesSaid : Prop := modelGoesRow.holds Tryz.pinned (OpenSpec.ofChange modelGoesSpec)

/-- ITS FALSE NEIGHBOUR: 'it returns false'. Refute it at one input. -/
def modelGoesWrong : ChangeSpec := { name := "modelGoes", fn := fun _ => fun
  | [d] => { results := [.lit (.bool false)], args := [d] }
  | _ => none }
def ModelGoesWrongFalsely : Prop := modelGoesRow.holds Tryz.pinned (OpenSpec.ofChange modelGoesWrong)

/-- 'cadastrelaw22.ModelThree': WHATEVER THE INPUT: true; the input reads as it did. -/
def modelThreeSpec : ChangeSpec := { name := "modelThree", fn := fun _ => fun
  | [d1, d2, d3] => { results := [.lit (.bool true)], args := [d1, d2, d3] }
  | _ => none }
def modelThreeRow : OpenClaim := { program := "ytlhafglnokpioaagreat", sum := "19f962ede502a0eac0cc6b566f64fee792d76dbe12bb5ccb2a9e3fc207594ded", func := "cadastre/cadastrelaw22.ModelThree", spec := "modelThree", inPlace := ["internal/bytealg.abigen_runtime_cmpstring"], unfollowed := true, recurses := true, loops := true, apart := false }
def ModelThreeSaid : Prop := modelThreeRow.holds Tryz.pinned (OpenSpec.ofChange modelThreeSpec)

/-- ITS FALSE NEIGHBOUR: 'it returns false'. Refute it at one input. -/
def modelThreeWrong : ChangeSpec := { name := "modelThree", fn := fun _ => fun
  | [d1, d2, d3] => { results := [.lit (.bool false)], args := [d1, d2, d3] }
  | _ => none }
def ModelThreeWrongFalsely : Prop := modelThreeRow.holds Tryz.pinned (OpenSpec.ofChange modelThreeWrong)

/-- 'cadastrelaw22.ModelTurned': WHATEVER THE INPUT: true; the input reads as it did. -/
def modelTurnedSpec : ChangeSpec := { name := "modelTurned", fn := fun _ => fun
  | [d1, d2, d3, d4] => { results := [.lit (.bool true)], args := [d1, d2, d3, d4] }
  | _ => none }
def modelTurnedRow : OpenClaim := { program := "ytlhafglnokpioaagreat", sum := "19f962ede502a0eac0cc6b566f64fee792d76dbe12bb5ccb2a9e3fc207594ded", func := "cadastre/cadastrelaw22.ModelTurned", spec := "modelTurned", inPlace := ["internal/bytealg.abigen_runtime_cmpstring"], unfollowed := true, recurses := true, loops := true, apart := false }
def ModelTurnedSaid : Prop := modelTurnedRow.holds Tryz.pinned (OpenSpec.ofChange modelTurnedSpec)

/-- ITS FALSE NEIGHBOUR: 'it returns false'. Refute it at one input. -/
def modelTurnedWrong : ChangeSpec := { name := "modelTurned", fn := fun _ => fun
  | [d1, d2, d3, d4] => { results := [.lit (.bool false)], args := [d1, d2, d3, d4] }
  | _ => none }
def ModelTurnedWrongFalsely : Prop := modelTurnedRow.holds Tryz.pinned (OpenSpec.ofChange modelTurnedWrong)

/-- 'cadastrelaw22.ModelOne': WHATEVER THE INPUT: true; the input reads as it did. -/
def modelOneSpec : ChangeSpec := { name := "modelOne", fn := fun _ => fun
  | [d1, d2, d3] => { results := [.lit (.bool true)], args := [d1, d2, d3] }
  | _ => none }
def modelOneRow : OpenClaim := { program := "ytlhafglnokpioaagreat", sum := "19f962ede502a0eac0cc6b566f64fee792d76dbe12bb5ccb2a9e3fc207594ded", func := "cadastre/cadastrelaw22.ModelOne", spec := "modelOne", inPlace := ["internal/bytealg.abigen_runtime_cmpstring"], unfollowed := true, recurses := true, loops := true, apart := false }
def ModelOneSaid : Prop := modelOneRow.holds Tryz.pinned (OpenSpec.ofChange modelOneSpec)

/-- ITS FALSE NEIGHBOUR: 'it returns false'. Refute it at one input. -/
def modelOneWrong : ChangeSpec := { name := "modelOne", fn := fun _ => fun
  | [d1, d2, d3] => { results := [.lit (.bool false)], args := [d1, d2, d3] }
  | _ => none }
def ModelOneWrongFalsely : Prop := modelOneRow.holds Tryz.pinned (OpenSpec.ofChange modelOneWrong)

/-- 'cadastrelaw22.ModelApplies': WHATEVER THE INPUT: true; the input reads as it did. -/
def modelAppliesSpec : ChangeSpec := { name := "modelApplies", fn := fun _ => fun
  | [d1, d2] => { results := [.lit (.bool true)], args := [d1, d2] }
  | _ => none }
def modelAppliesRow : OpenClaim := { program := "ytlhafglnokpioaagreat", sum := "19f962ede502a0eac0cc6b566f64fee792d76dbe12bb5ccb2a9e3fc207594ded", func := "cadastre/cadastrelaw22.ModelApplies", spec := "modelApplies", inPlace := ["internal/bytealg.abigen_runtime_cmpstring"], unfollowed := true, recurses := true, loops := true, apart := false }
def ModelAppliesSaid : Prop := modelAppliesRow.holds Tryz.pinned (OpenSpec.ofChange modelAppliesSpec)

/-- ITS FALSE NEIGHBOUR: 'it returns false'. Refute it at one input. -/
def modelAppliesWrong : ChangeSpec := { name := "modelApplies", fn := fun _ => fun
  | [d1, d2] => { results := [.lit (.bool false)], args := [d1, d2] }
  | _ => none }
def ModelAppliesWrongFalsely : Prop := modelAppliesRow.holds Tryz.pinned (OpenSpec.ofChange modelAppliesWrong)

/- THE SECOND FORM. 'bulk': how many values and letters a reading holds, each counted each time it is reached (what is shared counts as often as it is met; a slice's spare places count too). A statement '..UptoSaid' is the law's where the arguments, and the package variables that the reading takes, are together of bulk at most 1048576: NARROWER than '..Said'. Prove '..Said' where nothing that the law and all that it calls make is longer than what came in: it says more and counts as full. Else prove '..UptoSaid'. A law counts once. -/
mutual
def uptoBulk {H : Type} : DataW H → Nat
  | .lit (.string bytes) => bytes.length + 1
  | .lit _ => 1
  | .nil => 1
  | .ptr d => uptoBulk d + 1
  | .slice elems spare => uptoBulkAll elems + uptoBulkAll spare + 1
  | .agg parts => uptoBulkAll parts + 1
  | .iface _ d => uptoBulk d + 1
  | .map entries => uptoBulkEntries entries + 1
  | .held _ => 1
def uptoBulkAll {H : Type} : List (DataW H) → Nat
  | [] => 0
  | d :: r => uptoBulk d + uptoBulkAll r
def uptoBulkEntries {H : Type} : List (Lit × DataW H) → Nat
  | [] => 0
  | x :: r => uptoBulkEntry x + uptoBulkEntries r
def uptoBulkEntry {H : Type} : Lit × DataW H → Nat
  | (.string bytes, d) => bytes.length + uptoBulk d + 1
  | (_, d) => uptoBulk d + 1
 end
def uptoSmall : (H : Type) → List (DataW H) → Bool := fun _ ds => decide (uptoBulkAll ds ≤ 1048576)
def OpenSpec.upto (s : _root_.Go.ChangeSpec) : _root_.Go.OpenSpec := { _root_.Go.OpenSpec.ofChange s with cond := some uptoSmall }

/-- 'cadastrelaw22.ModelGoes', WHERE WHAT IT READS IS OF BULK AT MOST 1048576: true; the input reads as it did. -/
def modelGoesUptoRow : OpenClaim := { program := "ytlhafglnokpioaagreat", sum := "19f962ede502a0eac0cc6b566f64fee792d76dbe12bb5ccb2a9e3fc207594ded", func := "cadastre/cadastrelaw22.ModelGoes", spec := "modelGoes", inPlace := ["internal/bytealg.abigen_runtime_cmpstring"], unfollowed := true, recurses := true, loops := true, apart := false, narrowed := true }
def ModelGoesUptoSaid : Prop := modelGoesUptoRow.holds Tryz.pinned (OpenSpec.upto modelGoesSpec)

/-- 'cadastrelaw22.ModelThree', WHERE WHAT IT READS IS OF BULK AT MOST 1048576: true; the input reads as it did. -/
def modelThreeUptoRow : OpenClaim := { program := "ytlhafglnokpioaagreat", sum := "19f962ede502a0eac0cc6b566f64fee792d76dbe12bb5ccb2a9e3fc207594ded", func := "cadastre/cadastrelaw22.ModelThree", spec := "modelThree", inPlace := ["internal/bytealg.abigen_runtime_cmpstring"], unfollowed := true, recurses := true, loops := true, apart := false, narrowed := true }
def ModelThreeUptoSaid : Prop := modelThreeUptoRow.holds Tryz.pinned (OpenSpec.upto modelThreeSpec)

/-- 'cadastrelaw22.ModelTurned', WHERE WHAT IT READS IS OF BULK AT MOST 1048576: true; the input reads as it did. -/
def modelTurnedUptoRow : OpenClaim := { program := "ytlhafglnokpioaagreat", sum := "19f962ede502a0eac0cc6b566f64fee792d76dbe12bb5ccb2a9e3fc207594ded", func := "cadastre/cadastrelaw22.ModelTurned", spec := "modelTurned", inPlace := ["internal/bytealg.abigen_runtime_cmpstring"], unfollowed := true, recurses := true, loops := true, apart := false, narrowed := true }
def ModelTurnedUptoSaid : Prop := modelTurnedUptoRow.holds Tryz.pinned (OpenSpec.upto modelTurnedSpec)

/-- 'cadastrelaw22.ModelOne', WHERE WHAT IT READS IS OF BULK AT MOST 1048576: true; the input reads as it did. -/
def modelOneUptoRow : OpenClaim := { program := "ytlhafglnokpioaagreat", sum := "19f962ede502a0eac0cc6b566f64fee792d76dbe12bb5ccb2a9e3fc207594ded", func := "cadastre/cadastrelaw22.ModelOne", spec := "modelOne", inPlace := ["internal/bytealg.abigen_runtime_cmpstring"], unfollowed := true, recurses := true, loops := true, apart := false, narrowed := true }
def ModelOneUptoSaid : Prop := modelOneUptoRow.holds Tryz.pinned (OpenSpec.upto modelOneSpec)

/-- 'cadastrelaw22.ModelApplies', WHERE WHAT IT READS IS OF BULK AT MOST 1048576: true; the input reads as it did. -/
def modelAppliesUptoRow : OpenClaim := { program := "ytlhafglnokpioaagreat", sum := "19f962ede502a0eac0cc6b566f64fee792d76dbe12bb5ccb2a9e3fc207594ded", func := "cadastre/cadastrelaw22.ModelApplies", spec := "modelApplies", inPlace := ["internal/bytealg.abigen_runtime_cmpstring"], unfollowed := true, recurses := true, loops := true, apart := false, narrowed := true }
def ModelAppliesUptoSaid : Prop := modelAppliesUptoRow.holds Tryz.pinned (OpenSpec.upto modelAppliesSpec)

end Rows
end Go.Proofs.YtlhafglnokpioaaGreat
