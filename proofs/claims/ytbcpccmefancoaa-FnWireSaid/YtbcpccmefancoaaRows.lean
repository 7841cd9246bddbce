/-
  No cell of these rows narrows 'for every input' (looked for: loops, veiled, ifaces, maps, wideKeys, modest, calm, conditions, laid).
  DERIVED. THE GIVEN ROWS OF THIS SEAT. 11 by the template 'for every input the law returns true; each argument reads behind the call as it read before'; 0 by the template 'total and deterministic' (their statements: YtbcpccmefancoaaTotals.lean).
  GIVEN WITH THE SEED: the statements are not yours to turn. If you find one false, say at which input.
  Laid BY PROGRAM, IN A SANDBOX (cutbox-rows.mjs): the forced cells as the released guide's own fill.sh prints them over the translation e7b477f8043cecec… (all of the seat's roots in one cut). By AI agents, Wed Nov 11 2026. No macro, syntax, notation, axiom, sorry.
-/
import Derived.Test.YtbcpccmefancoaaChecked
import GoSem.Claim
import GoSem.ClaimJoined
import GoSem.ClaimMapViews
import Derived.JoinedTies
import Derived.KernelRfl
namespace Go.Proofs.Ytbcpccmefancoaa
/- THE CELL 'sum', in the pinned program and in every row, IS THE sha256 OF THE DUMP (.gsa) THAT YtbcpccmefancoaaProg.lean LOADS. Nothing in Lean hashes anything: it is a label: what it is worth is what the hold of that sum in a sandbox is worth. -/
noncomputable def Try.pinned : Pinned := { name := "ytbcpccmefancoaa", sum := "e7b477f8043cecec72b4c0b59f14f801f3c81947b6712533f813d0ed8ee73cb3", checked := Try.checked }
namespace Rows
def none {H : Type} : Left H := { results := [], args := [] }

/-- 'laws.FnComplex': WHATEVER THE INPUT: true; the input reads as it did. -/
def fnComplexSpec : ChangeSpec := { name := "fnComplex", fn := fun _ => fun
  | [d] => { results := [.lit (.bool true)], args := [d] }
  | _ => none }
def fnComplexRow : OpenClaim := { program := "ytbcpccmefancoaa", sum := "e7b477f8043cecec72b4c0b59f14f801f3c81947b6712533f813d0ed8ee73cb3", func := "loop.example/g00075/laws.FnComplex", spec := "fnComplex", apart := false }
def FnComplexSaid : Prop := fnComplexRow.holds Try.pinned (OpenSpec.ofChange fnComplexSpec)

/-- ITS FALSE NEIGHBOUR: 'it returns false'. Refute it at one input. -/
def fnComplexWrong : ChangeSpec := { name := "fnComplex", fn := fun _ => fun
  | [d] => { results := [.lit (.bool false)], args := [d] }
  | _ => none }
def FnComplexWrongFalsely : Prop := fnComplexRow.holds Try.pinned (OpenSpec.ofChange fnComplexWrong)

/-- 'laws.FnExactZSize': WHATEVER THE INPUT: true; the input reads as it did. -/
def fnExactZSizeSpec : ChangeSpec := { name := "fnExactZSize", fn := fun _ => fun
  | [d] => { results := [.lit (.bool true)], args := [d] }
  | _ => none }
def fnExactZSizeRow : OpenClaim := { program := "ytbcpccmefancoaa", sum := "e7b477f8043cecec72b4c0b59f14f801f3c81947b6712533f813d0ed8ee73cb3", func := "loop.example/g00075/laws.FnExactZSize", spec := "fnExactZSize", apart := false }
def FnExactZSizeSaid : Prop := fnExactZSizeRow.holds Try.pinned (OpenSpec.ofChange fnExactZSizeSpec)

/-- ITS FALSE NEIGHBOUR: 'it returns false'. Refute it at one input. -/
def fnExactZSizeWrong : ChangeSpec := { name := "fnExactZSize", fn := fun _ => fun
  | [d] => { results := [.lit (.bool false)], args := [d] }
  | _ => none }
def FnExactZSizeWrongFalsely : Prop := fnExactZSizeRow.holds Try.pinned (OpenSpec.ofChange fnExactZSizeWrong)

/-- 'laws.FnExactZAdd': WHATEVER THE INPUT: true; the input reads as it did. -/
def fnExactZAddSpec : ChangeSpec := { name := "fnExactZAdd", fn := fun _ => fun
  | [d1, d2] => { results := [.lit (.bool true)], args := [d1, d2] }
  | _ => none }
def fnExactZAddRow : OpenClaim := { program := "ytbcpccmefancoaa", sum := "e7b477f8043cecec72b4c0b59f14f801f3c81947b6712533f813d0ed8ee73cb3", func := "loop.example/g00075/laws.FnExactZAdd", spec := "fnExactZAdd", apart := false }
def FnExactZAddSaid : Prop := fnExactZAddRow.holds Try.pinned (OpenSpec.ofChange fnExactZAddSpec)

/-- ITS FALSE NEIGHBOUR: 'it returns false'. Refute it at one input. -/
def fnExactZAddWrong : ChangeSpec := { name := "fnExactZAdd", fn := fun _ => fun
  | [d1, d2] => { results := [.lit (.bool false)], args := [d1, d2] }
  | _ => none }
def FnExactZAddWrongFalsely : Prop := fnExactZAddRow.holds Try.pinned (OpenSpec.ofChange fnExactZAddWrong)

/-- 'laws.FnExactZMul': WHATEVER THE INPUT: true; the input reads as it did. -/
def fnExactZMulSpec : ChangeSpec := { name := "fnExactZMul", fn := fun _ => fun
  | [d1, d2] => { results := [.lit (.bool true)], args := [d1, d2] }
  | _ => none }
def fnExactZMulRow : OpenClaim := { program := "ytbcpccmefancoaa", sum := "e7b477f8043cecec72b4c0b59f14f801f3c81947b6712533f813d0ed8ee73cb3", func := "loop.example/g00075/laws.FnExactZMul", spec := "fnExactZMul", apart := false }
def FnExactZMulSaid : Prop := fnExactZMulRow.holds Try.pinned (OpenSpec.ofChange fnExactZMulSpec)

/-- ITS FALSE NEIGHBOUR: 'it returns false'. Refute it at one input. -/
def fnExactZMulWrong : ChangeSpec := { name := "fnExactZMul", fn := fun _ => fun
  | [d1, d2] => { results := [.lit (.bool false)], args := [d1, d2] }
  | _ => none }
def FnExactZMulWrongFalsely : Prop := fnExactZMulRow.holds Try.pinned (OpenSpec.ofChange fnExactZMulWrong)

/-- 'laws.FnExactZDiv': WHATEVER THE INPUT: true; the input reads as it did. -/
def fnExactZDivSpec : ChangeSpec := { name := "fnExactZDiv", fn := fun _ => fun
  | [d1, d2] => { results := [.lit (.bool true)], args := [d1, d2] }
  | _ => none }
def fnExactZDivRow : OpenClaim := { program := "ytbcpccmefancoaa", sum := "e7b477f8043cecec72b4c0b59f14f801f3c81947b6712533f813d0ed8ee73cb3", func := "loop.example/g00075/laws.FnExactZDiv", spec := "fnExactZDiv", apart := false }
def FnExactZDivSaid : Prop := fnExactZDivRow.holds Try.pinned (OpenSpec.ofChange fnExactZDivSpec)

/-- ITS FALSE NEIGHBOUR: 'it returns false'. Refute it at one input. -/
def fnExactZDivWrong : ChangeSpec := { name := "fnExactZDiv", fn := fun _ => fun
  | [d1, d2] => { results := [.lit (.bool false)], args := [d1, d2] }
  | _ => none }
def FnExactZDivWrongFalsely : Prop := fnExactZDivRow.holds Try.pinned (OpenSpec.ofChange fnExactZDivWrong)

/-- 'laws.FnExactFed': WHATEVER THE INPUT: true; the input reads as it did. -/
def fnExactFedSpec : ChangeSpec := { name := "fnExactFed", fn := fun _ => fun
  | [d1, d2] => { results := [.lit (.bool true)], args := [d1, d2] }
  | _ => none }
def fnExactFedRow : OpenClaim := { program := "ytbcpccmefancoaa", sum := "e7b477f8043cecec72b4c0b59f14f801f3c81947b6712533f813d0ed8ee73cb3", func := "loop.example/g00075/laws.FnExactFed", spec := "fnExactFed", apart := false }
def FnExactFedSaid : Prop := fnExactFedRow.holds Try.pinned (OpenSpec.ofChange fnExactFedSpec)

/-- ITS FALSE NEIGHBOUR: 'it returns false'. Refute it at one input. -/
def fnExactFedWrong : ChangeSpec := { name := "fnExactFed", fn := fun _ => fun
  | [d1, d2] => { results := [.lit (.bool false)], args := [d1, d2] }
  | _ => none }
def FnExactFedWrongFalsely : Prop := fnExactFedRow.holds Try.pinned (OpenSpec.ofChange fnExactFedWrong)

/-- 'laws.FnExactLowest': WHATEVER THE INPUT: true; the input reads as it did. -/
def fnExactLowestSpec : ChangeSpec := { name := "fnExactLowest", fn := fun _ => fun
  | [d] => { results := [.lit (.bool true)], args := [d] }
  | _ => none }
def fnExactLowestRow : OpenClaim := { program := "ytbcpccmefancoaa", sum := "e7b477f8043cecec72b4c0b59f14f801f3c81947b6712533f813d0ed8ee73cb3", func := "loop.example/g00075/laws.FnExactLowest", spec := "fnExactLowest", apart := false }
def FnExactLowestSaid : Prop := fnExactLowestRow.holds Try.pinned (OpenSpec.ofChange fnExactLowestSpec)

/-- ITS FALSE NEIGHBOUR: 'it returns false'. Refute it at one input. -/
def fnExactLowestWrong : ChangeSpec := { name := "fnExactLowest", fn := fun _ => fun
  | [d] => { results := [.lit (.bool false)], args := [d] }
  | _ => none }
def FnExactLowestWrongFalsely : Prop := fnExactLowestRow.holds Try.pinned (OpenSpec.ofChange fnExactLowestWrong)

/-- 'laws.FnExactSums': WHATEVER THE INPUT: true; the input reads as it did. -/
def fnExactSumsSpec : ChangeSpec := { name := "fnExactSums", fn := fun _ => fun
  | [d] => { results := [.lit (.bool true)], args := [d] }
  | _ => none }
def fnExactSumsRow : OpenClaim := { program := "ytbcpccmefancoaa", sum := "e7b477f8043cecec72b4c0b59f14f801f3c81947b6712533f813d0ed8ee73cb3", func := "loop.example/g00075/laws.FnExactSums", spec := "fnExactSums", apart := false }
def FnExactSumsSaid : Prop := fnExactSumsRow.holds Try.pinned (OpenSpec.ofChange fnExactSumsSpec)

/-- ITS FALSE NEIGHBOUR: 'it returns false'. Refute it at one input. -/
def fnExactSumsWrong : ChangeSpec := { name := "fnExactSums", fn := fun _ => fun
  | [d] => { results := [.lit (.bool false)], args := [d] }
  | _ => none }
def FnExactSumsWrongFalsely : Prop := fnExactSumsRow.holds Try.pinned (OpenSpec.ofChange fnExactSumsWrong)

/-- 'laws.FnExactLosses': WHATEVER THE INPUT: true; the input reads as it did. -/
def fnExactLossesSpec : ChangeSpec := { name := "fnExactLosses", fn := fun _ => fun
  | [d1, d2] => { results := [.lit (.bool true)], args := [d1, d2] }
  | _ => none }
def fnExactLossesRow : OpenClaim := { program := "ytbcpccmefancoaa", sum := "e7b477f8043cecec72b4c0b59f14f801f3c81947b6712533f813d0ed8ee73cb3", func := "loop.example/g00075/laws.FnExactLosses", spec := "fnExactLosses", apart := false }
def FnExactLossesSaid : Prop := fnExactLossesRow.holds Try.pinned (OpenSpec.ofChange fnExactLossesSpec)

/-- ITS FALSE NEIGHBOUR: 'it returns false'. Refute it at one input. -/
def fnExactLossesWrong : ChangeSpec := { name := "fnExactLosses", fn := fun _ => fun
  | [d1, d2] => { results := [.lit (.bool false)], args := [d1, d2] }
  | _ => none }
def FnExactLossesWrongFalsely : Prop := fnExactLossesRow.holds Try.pinned (OpenSpec.ofChange fnExactLossesWrong)

/-- 'laws.FnExactVolts': WHATEVER THE INPUT: true; the input reads as it did. -/
def fnExactVoltsSpec : ChangeSpec := { name := "fnExactVolts", fn := fun _ => fun
  | [d1, d2, d3] => { results := [.lit (.bool true)], args := [d1, d2, d3] }
  | _ => none }
def fnExactVoltsRow : OpenClaim := { program := "ytbcpccmefancoaa", sum := "e7b477f8043cecec72b4c0b59f14f801f3c81947b6712533f813d0ed8ee73cb3", func := "loop.example/g00075/laws.FnExactVolts", spec := "fnExactVolts", apart := false }
def FnExactVoltsSaid : Prop := fnExactVoltsRow.holds Try.pinned (OpenSpec.ofChange fnExactVoltsSpec)

/-- ITS FALSE NEIGHBOUR: 'it returns false'. Refute it at one input. -/
def fnExactVoltsWrong : ChangeSpec := { name := "fnExactVolts", fn := fun _ => fun
  | [d1, d2, d3] => { results := [.lit (.bool false)], args := [d1, d2, d3] }
  | _ => none }
def FnExactVoltsWrongFalsely : Prop := fnExactVoltsRow.holds Try.pinned (OpenSpec.ofChange fnExactVoltsWrong)

/-- 'laws.FnWire': WHATEVER THE INPUT: true; the input reads as it did. -/
def fnWireSpec : ChangeSpec := { name := "fnWire", fn := fun _ => fun
  | [d] => { results := [.lit (.bool true)], args := [d] }
  | _ => none }
def fnWireRow : OpenClaim := { program := "ytbcpccmefancoaa", sum := "e7b477f8043cecec72b4c0b59f14f801f3c81947b6712533f813d0ed8ee73cb3", func := "loop.example/g00075/laws.FnWire", spec := "fnWire", apart := false }
def FnWireSaid : Prop := fnWireRow.holds Try.pinned (OpenSpec.ofChange fnWireSpec)

/-- ITS FALSE NEIGHBOUR: 'it returns false'. Refute it at one input. -/
def fnWireWrong : ChangeSpec := { name := "fnWire", fn := fun _ => fun
  | [d] => { results := [.lit (.bool false)], args := [d] }
  | _ => none }
def FnWireWrongFalsely : Prop := fnWireRow.holds Try.pinned (OpenSpec.ofChange fnWireWrong)

/- THE SECOND FORM. 'bulk': how many values and letters a reading holds, each counted each time it is reached (what is shared counts as often as it is met; a slice's spare places count too). A statement '..UptoSaid' is the law's where the arguments, and the package variables that the reading takes, are together of bulk at most 1048576: NARROWER than '..Said'. Prove '..Said' where nothing that the law and all that it calls make is longer than what came in: it says more and counts as full. Else prove '..UptoSaid'. A law counts once. -/
mutual
def uptoBulk {H : Type} : DataW H → Nat
  | .lit (.string bytes) => bytes.length + 1
  | .lit _ => 1
  | .nil => 1
  | .ptr d => uptoBulk d + 1
  | .slice elems spare => uptoBulkAll elems + uptoBulkAll spare + 1
  | .agg parts => uptoBulkAll parts + 1
  | .iface _ d => uptoBulk d + 1
  | .map entries => uptoBulkEntries entries + 1
  | .held _ => 1
def uptoBulkAll {H : Type} : List (DataW H) → Nat
  | [] => 0
  | d :: r => uptoBulk d + uptoBulkAll r
def uptoBulkEntries {H : Type} : List (Lit × DataW H) → Nat
  | [] => 0
  | x :: r => uptoBulkEntry x + uptoBulkEntries r
def uptoBulkEntry {H : Type} : Lit × DataW H → Nat
  | (.string bytes, d) => bytes.length + uptoBulk d + 1
  | (_, d) => uptoBulk d + 1
 end
def uptoSmall : (H : Type) → List (DataW H) → Bool := fun _ ds => decide (uptoBulkAll ds ≤ 1048576)
def OpenSpec.upto (s : _root_.Go.ChangeSpec) : _root_.Go.OpenSpec := { _root_.Go.OpenSpec.ofChange s with cond := some uptoSmall }

/-- 'laws.FnComplex', WHERE WHAT IT READS IS OF BULK AT MOST 1048576: true; the input reads as it did. -/
def fnComplexUptoRow : OpenClaim := { program := "ytbcpccmefancoaa", sum := "e7b477f8043cecec72b4c0b59f14f801f3c81947b6712533f813d0ed8ee73cb3", func := "loop.example/g00075/laws.FnComplex", spec := "fnComplex", apart := false, narrowed := true }
def FnComplexUptoSaid : Prop := fnComplexUptoRow.holds Try.pinned (OpenSpec.upto fnComplexSpec)

/-- 'laws.FnExactZSize', WHERE WHAT IT READS IS OF BULK AT MOST 1048576: true; the input reads as it did. -/
def fnExactZSizeUptoRow : OpenClaim := { program := "ytbcpccmefancoaa", sum := "e7b477f8043cecec72b4c0b59f14f801f3c81947b6712533f813d0ed8ee73cb3", func := "loop.example/g00075/laws.FnExactZSize", spec := "fnExactZSize", apart := false, narrowed := true }
def FnExactZSizeUptoSaid : Prop := fnExactZSizeUptoRow.holds Try.pinned (OpenSpec.upto fnExactZSizeSpec)

/-- 'laws.FnExactZAdd', WHERE WHAT IT READS IS OF BULK AT MOST 1048576: true; the input reads as it did. -/
def fnExactZAddUptoRow : OpenClaim := { program := "ytbcpccmefancoaa", sum := "e7b477f8043cecec72b4c0b59f14f801f3c81947b6712533f813d0ed8ee73cb3", func := "loop.example/g00075/laws.FnExactZAdd", spec := "fnExactZAdd", apart := false, narrowed := true }
def FnExactZAddUptoSaid : Prop := fnExactZAddUptoRow.holds Try.pinned (OpenSpec.upto fnExactZAddSpec)

/-- 'laws.FnExactZMul', WHERE WHAT IT READS IS OF BULK AT MOST 1048576: true; the input reads as it did. -/
def fnExactZMulUptoRow : OpenClaim := { program := "ytbcpccmefancoaa", sum := "e7b477f8043cecec72b4c0b59f14f801f3c81947b6712533f813d0ed8ee73cb3", func := "loop.example/g00075/laws.FnExactZMul", spec := "fnExactZMul", apart := false, narrowed := true }
def FnExactZMulUptoSaid : Prop := fnExactZMulUptoRow.holds Try.pinned (OpenSpec.upto fnExactZMulSpec)

/-- 'laws.FnExactZDiv', WHERE WHAT IT READS IS OF BULK AT MOST 1048576: true; the input reads as it did. -/
def fnExactZDivUptoRow : OpenClaim := { program := "ytbcpccmefancoaa", sum := "e7b477f8043cecec72b4c0b59f14f801f3c81947b6712533f813d0ed8ee73cb3", func := "loop.example/g00075/laws.FnExactZDiv", spec := "fnExactZDiv", apart := false, narrowed := true }
def FnExactZDivUptoSaid : Prop := fnExactZDivUptoRow.holds Try.pinned (OpenSpec.upto fnExactZDivSpec)

/-- 'laws.FnExactFed', WHERE WHAT IT READS IS OF BULK AT MOST 1048576: true; the input reads as it did. -/
def fnExactFedUptoRow : OpenClaim := { program := "ytbcpccmefancoaa", sum := "e7b477f8043cecec72b4c0b59f14f801f3c81947b6712533f813d0ed8ee73cb3", func := "loop.example/g00075/laws.FnExactFed", spec := "fnExactFed", apart := false, narrowed := true }
def FnExactFedUptoSaid : Prop := fnExactFedUptoRow.holds Try.pinned (OpenSpec.upto fnExactFedSpec)

/-- 'laws.FnExactLowest', WHERE WHAT IT READS IS OF BULK AT MOST 1048576: true; the input reads as it did. -/
def fnExactLowestUptoRow : OpenClaim := { program := "ytbcpccmefancoaa", sum := "e7b477f8043cecec72b4c0b59f14f801f3c81947b6712533f813d0ed8ee73cb3", func := "loop.example/g00075/laws.FnExactLowest", spec := "fnExactLowest", apart := false, narrowed := true }
def FnExactLowestUptoSaid : Prop := fnExactLowestUptoRow.holds Try.pinned (OpenSpec.upto fnExactLowestSpec)

/-- 'laws.FnExactSums', WHERE WHAT IT READS IS OF BULK AT MOST 1048576: true; the input reads as it did. -/
def fnExactSumsUptoRow : OpenClaim := { program := "ytbcpccmefancoaa", sum := "e7b477f8043cecec72b4c0b59f14f801f3c81947b6712533f813d0ed8ee73cb3", func := "loop.example/g00075/laws.FnExactSums", spec := "fnExactSums", apart := false, narrowed := true }
def FnExactSumsUptoSaid : Prop := fnExactSumsUptoRow.holds Try.pinned (OpenSpec.upto fnExactSumsSpec)

/-- 'laws.FnExactLosses', WHERE WHAT IT READS IS OF BULK AT MOST 1048576: true; the input reads as it did. -/
def fnExactLossesUptoRow : OpenClaim := { program := "ytbcpccmefancoaa", sum := "e7b477f8043cecec72b4c0b59f14f801f3c81947b6712533f813d0ed8ee73cb3", func := "loop.example/g00075/laws.FnExactLosses", spec := "fnExactLosses", apart := false, narrowed := true }
def FnExactLossesUptoSaid : Prop := fnExactLossesUptoRow.holds Try.pinned (OpenSpec.upto fnExactLossesSpec)

/-- 'laws.FnExactVolts', WHERE WHAT IT READS IS OF BULK AT MOST 1048576: true; the input reads as it did. -/
def fnExactVoltsUptoRow : OpenClaim := { program := "ytbcpccmefancoaa", sum := "e7b477f8043cecec72b4c0b59f14f801f3c81947b6712533f813d0ed8ee73cb3", func := "loop.example/g00075/laws.FnExactVolts", spec := "fnExactVolts", apart := false, narrowed := true }
def FnExactVoltsUptoSaid : Prop := fnExactVoltsUptoRow.holds Try.pinned (OpenSpec.upto fnExactVoltsSpec)

/-- 'laws.FnWire', WHERE WHAT IT READS IS OF BULK AT MOST 1048576: true; the input reads as it did. -/
def fnWireUptoRow : OpenClaim := { program := "ytbcpccmefancoaa", sum := "e7b477f8043cecec72b4c0b59f14f801f3c81947b6712533f813d0ed8ee73cb3", func := "loop.example/g00075/laws.FnWire", spec := "fnWire", apart := false, narrowed := true }
def FnWireUptoSaid : Prop := fnWireUptoRow.holds Try.pinned (OpenSpec.upto fnWireSpec)

end Rows
end Go.Proofs.Ytbcpccmefancoaa
