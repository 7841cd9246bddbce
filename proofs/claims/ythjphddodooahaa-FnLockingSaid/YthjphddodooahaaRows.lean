/-
  No cell of these rows narrows 'for every input' (looked for: loops, veiled, ifaces, maps, wideKeys, modest, calm, conditions, laid).
  DERIVED. THE GIVEN ROWS OF THIS SEAT. 7 by the template 'for every input the law returns true; each argument reads behind the call as it read before'; 0 by the template 'total and deterministic' (their statements: YthjphddodooahaaTotals.lean).
  GIVEN WITH THE SEED: the statements are not yours to turn. If you find one false, say at which input.
  Laid BY PROGRAM, IN A SANDBOX (cutbox-rows.mjs): the forced cells as the released guide's own fill.sh prints them over the translation 6c39ab7be3b32a5b… (all of the seat's roots in one cut). By AI agents, Wed Nov 11 2026. No macro, syntax, notation, axiom, sorry.
-/
import Derived.Test.YthjphddodooahaaChecked
import GoSem.Claim
import GoSem.ClaimJoined
import GoSem.ClaimMapViews
import Derived.JoinedTies
import Derived.KernelRfl
namespace Go.Proofs.Ythjphddodooahaa
/- THE CELL 'sum', in the pinned program and in every row, IS THE sha256 OF THE DUMP (.gsa) THAT YthjphddodooahaaProg.lean LOADS. Nothing in Lean hashes anything: it is a label: what it is worth is what the hold of that sum in a sandbox is worth. -/
noncomputable def Try.pinned : Pinned := { name := "ythjphddodooahaa", sum := "6c39ab7be3b32a5b2e6e86c44efab5dd87c756277f8c32cd6f1ddde10a3d4ec3", checked := Try.checked }
namespace Rows
def none {H : Type} : Left H := { results := [], args := [] }

/-- 'laws.FnRoutes': WHATEVER THE INPUT: true; the input reads as it did. -/
def fnRoutesSpec : ChangeSpec := { name := "fnRoutes", fn := fun _ => fun
  | [d] => { results := [.lit (.bool true)], args := [d] }
  | _ => none }
def fnRoutesRow : OpenClaim := { program := "ythjphddodooahaa", sum := "6c39ab7be3b32a5b2e6e86c44efab5dd87c756277f8c32cd6f1ddde10a3d4ec3", func := "loop.example/g00075/laws.FnRoutes", spec := "fnRoutes", apart := false }
def FnRoutesSaid : Prop := fnRoutesRow.holds Try.pinned (OpenSpec.ofChange fnRoutesSpec)

/-- ITS FALSE NEIGHBOUR: 'it returns false'. Refute it at one input. -/
def fnRoutesWrong : ChangeSpec := { name := "fnRoutes", fn := fun _ => fun
  | [d] => { results := [.lit (.bool false)], args := [d] }
  | _ => none }
def FnRoutesWrongFalsely : Prop := fnRoutesRow.holds Try.pinned (OpenSpec.ofChange fnRoutesWrong)

/-- 'laws.FnLocking': WHATEVER THE INPUT: true; the input reads as it did. -/
def fnLockingSpec : ChangeSpec := { name := "fnLocking", fn := fun _ => fun
  | [d] => { results := [.lit (.bool true)], args := [d] }
  | _ => none }
def fnLockingRow : OpenClaim := { program := "ythjphddodooahaa", sum := "6c39ab7be3b32a5b2e6e86c44efab5dd87c756277f8c32cd6f1ddde10a3d4ec3", func := "loop.example/g00075/laws.FnLocking", spec := "fnLocking", apart := false }
def FnLockingSaid : Prop := fnLockingRow.holds Try.pinned (OpenSpec.ofChange fnLockingSpec)

/-- ITS FALSE NEIGHBOUR: 'it returns false'. Refute it at one input. -/
def fnLockingWrong : ChangeSpec := { name := "fnLocking", fn := fun _ => fun
  | [d] => { results := [.lit (.bool false)], args := [d] }
  | _ => none }
def FnLockingWrongFalsely : Prop := fnLockingRow.holds Try.pinned (OpenSpec.ofChange fnLockingWrong)

/-- 'laws.FnExactVacate': WHATEVER THE INPUT: true; the input reads as it did. -/
def fnExactVacateSpec : ChangeSpec := { name := "fnExactVacate", fn := fun _ => fun
  | [d1, d2, d3] => { results := [.lit (.bool true)], args := [d1, d2, d3] }
  | _ => none }
def fnExactVacateRow : OpenClaim := { program := "ythjphddodooahaa", sum := "6c39ab7be3b32a5b2e6e86c44efab5dd87c756277f8c32cd6f1ddde10a3d4ec3", func := "loop.example/g00075/laws.FnExactVacate", spec := "fnExactVacate", apart := false }
def FnExactVacateSaid : Prop := fnExactVacateRow.holds Try.pinned (OpenSpec.ofChange fnExactVacateSpec)

/-- ITS FALSE NEIGHBOUR: 'it returns false'. Refute it at one input. -/
def fnExactVacateWrong : ChangeSpec := { name := "fnExactVacate", fn := fun _ => fun
  | [d1, d2, d3] => { results := [.lit (.bool false)], args := [d1, d2, d3] }
  | _ => none }
def FnExactVacateWrongFalsely : Prop := fnExactVacateRow.holds Try.pinned (OpenSpec.ofChange fnExactVacateWrong)

/-- 'laws.FnExactOccupy': WHATEVER THE INPUT: true; the input reads as it did. -/
def fnExactOccupySpec : ChangeSpec := { name := "fnExactOccupy", fn := fun _ => fun
  | [d1, d2, d3] => { results := [.lit (.bool true)], args := [d1, d2, d3] }
  | _ => none }
def fnExactOccupyRow : OpenClaim := { program := "ythjphddodooahaa", sum := "6c39ab7be3b32a5b2e6e86c44efab5dd87c756277f8c32cd6f1ddde10a3d4ec3", func := "loop.example/g00075/laws.FnExactOccupy", spec := "fnExactOccupy", apart := false }
def FnExactOccupySaid : Prop := fnExactOccupyRow.holds Try.pinned (OpenSpec.ofChange fnExactOccupySpec)

/-- ITS FALSE NEIGHBOUR: 'it returns false'. Refute it at one input. -/
def fnExactOccupyWrong : ChangeSpec := { name := "fnExactOccupy", fn := fun _ => fun
  | [d1, d2, d3] => { results := [.lit (.bool false)], args := [d1, d2, d3] }
  | _ => none }
def FnExactOccupyWrongFalsely : Prop := fnExactOccupyRow.holds Try.pinned (OpenSpec.ofChange fnExactOccupyWrong)

/-- 'laws.FnExactWithdraw': WHATEVER THE INPUT: true; the input reads as it did. -/
def fnExactWithdrawSpec : ChangeSpec := { name := "fnExactWithdraw", fn := fun _ => fun
  | [d1, d2, d3] => { results := [.lit (.bool true)], args := [d1, d2, d3] }
  | _ => none }
def fnExactWithdrawRow : OpenClaim := { program := "ythjphddodooahaa", sum := "6c39ab7be3b32a5b2e6e86c44efab5dd87c756277f8c32cd6f1ddde10a3d4ec3", func := "loop.example/g00075/laws.FnExactWithdraw", spec := "fnExactWithdraw", apart := false }
def FnExactWithdrawSaid : Prop := fnExactWithdrawRow.holds Try.pinned (OpenSpec.ofChange fnExactWithdrawSpec)

/-- ITS FALSE NEIGHBOUR: 'it returns false'. Refute it at one input. -/
def fnExactWithdrawWrong : ChangeSpec := { name := "fnExactWithdraw", fn := fun _ => fun
  | [d1, d2, d3] => { results := [.lit (.bool false)], args := [d1, d2, d3] }
  | _ => none }
def FnExactWithdrawWrongFalsely : Prop := fnExactWithdrawRow.holds Try.pinned (OpenSpec.ofChange fnExactWithdrawWrong)

/-- 'laws.FnExactRequest': WHATEVER THE INPUT: true; the input reads as it did. -/
def fnExactRequestSpec : ChangeSpec := { name := "fnExactRequest", fn := fun _ => fun
  | [d1, d2, d3] => { results := [.lit (.bool true)], args := [d1, d2, d3] }
  | _ => none }
def fnExactRequestRow : OpenClaim := { program := "ythjphddodooahaa", sum := "6c39ab7be3b32a5b2e6e86c44efab5dd87c756277f8c32cd6f1ddde10a3d4ec3", func := "loop.example/g00075/laws.FnExactRequest", spec := "fnExactRequest", apart := false }
def FnExactRequestSaid : Prop := fnExactRequestRow.holds Try.pinned (OpenSpec.ofChange fnExactRequestSpec)

/-- ITS FALSE NEIGHBOUR: 'it returns false'. Refute it at one input. -/
def fnExactRequestWrong : ChangeSpec := { name := "fnExactRequest", fn := fun _ => fun
  | [d1, d2, d3] => { results := [.lit (.bool false)], args := [d1, d2, d3] }
  | _ => none }
def FnExactRequestWrongFalsely : Prop := fnExactRequestRow.holds Try.pinned (OpenSpec.ofChange fnExactRequestWrong)

/-- 'laws.FnExactPlayLock': WHATEVER THE INPUT: true; the input reads as it did. -/
def fnExactPlayLockSpec : ChangeSpec := { name := "fnExactPlayLock", fn := fun _ => fun
  | [d1, d2] => { results := [.lit (.bool true)], args := [d1, d2] }
  | _ => none }
def fnExactPlayLockRow : OpenClaim := { program := "ythjphddodooahaa", sum := "6c39ab7be3b32a5b2e6e86c44efab5dd87c756277f8c32cd6f1ddde10a3d4ec3", func := "loop.example/g00075/laws.FnExactPlayLock", spec := "fnExactPlayLock", apart := false }
def FnExactPlayLockSaid : Prop := fnExactPlayLockRow.holds Try.pinned (OpenSpec.ofChange fnExactPlayLockSpec)

/-- ITS FALSE NEIGHBOUR: 'it returns false'. Refute it at one input. -/
def fnExactPlayLockWrong : ChangeSpec := { name := "fnExactPlayLock", fn := fun _ => fun
  | [d1, d2] => { results := [.lit (.bool false)], args := [d1, d2] }
  | _ => none }
def FnExactPlayLockWrongFalsely : Prop := fnExactPlayLockRow.holds Try.pinned (OpenSpec.ofChange fnExactPlayLockWrong)

/- THE SECOND FORM. 'bulk': how many values and letters a reading holds, each counted each time it is reached (what is shared counts as often as it is met; a slice's spare places count too). A statement '..UptoSaid' is the law's where the arguments, and the package variables that the reading takes, are together of bulk at most 1048576: NARROWER than '..Said'. Prove '..Said' where nothing that the law and all that it calls make is longer than what came in: it says more and counts as full. Else prove '..UptoSaid'. A law counts once. -/
mutual
def uptoBulk {H : Type} : DataW H → Nat
  | .lit (.string bytes) => bytes.length + 1
  | .lit _ => 1
  | .nil => 1
  | .ptr d => uptoBulk d + 1
  | .slice elems spare => uptoBulkAll elems + uptoBulkAll spare + 1
  | .agg parts => uptoBulkAll parts + 1
  | .iface _ d => uptoBulk d + 1
  | .map entries => uptoBulkEntries entries + 1
  | .held _ => 1
def uptoBulkAll {H : Type} : List (DataW H) → Nat
  | [] => 0
  | d :: r => uptoBulk d + uptoBulkAll r
def uptoBulkEntries {H : Type} : List (Lit × DataW H) → Nat
  | [] => 0
  | x :: r => uptoBulkEntry x + uptoBulkEntries r
def uptoBulkEntry {H : Type} : Lit × DataW H → Nat
  | (.string bytes, d) => bytes.length + uptoBulk d + 1
  | (_, d) => uptoBulk d + 1
 end
def uptoSmall : (H : Type) → List (DataW H) → Bool := fun _ ds => decide (uptoBulkAll ds ≤ 1048576)
def OpenSpec.upto (s : _root_.Go.ChangeSpec) : _root_.Go.OpenSpec := { _root_.Go.OpenSpec.ofChange s with cond := some uptoSmall }

/-- 'laws.FnRoutes', WHERE WHAT IT READS IS OF BULK AT MOST 1048576: true; the input reads as it did. -/
def fnRoutesUptoRow : OpenClaim := { program := "ythjphddodooahaa", sum := "6c39ab7be3b32a5b2e6e86c44efab5dd87c756277f8c32cd6f1ddde10a3d4ec3", func := "loop.example/g00075/laws.FnRoutes", spec := "fnRoutes", apart := false, narrowed := true }
def FnRoutesUptoSaid : Prop := fnRoutesUptoRow.holds Try.pinned (OpenSpec.upto fnRoutesSpec)

/-- 'laws.FnLocking', WHERE WHAT IT READS IS OF BULK AT MOST 1048576: true; the input reads as it did. -/
def fnLockingUptoRow : OpenClaim := { program := "ythjphddodooahaa", sum := "6c39ab7be3b32a5b2e6e86c44efab5dd87c756277f8c32cd6f1ddde10a3d4ec3", func := "loop.example/g00075/laws.FnLocking", spec := "fnLocking", apart := false, narrowed := true }
def FnLockingUptoSaid : Prop := fnLockingUptoRow.holds Try.pinned (OpenSpec.upto fnLockingSpec)

/-- 'laws.FnExactVacate', WHERE WHAT IT READS IS OF BULK AT MOST 1048576: true; the input reads as it did. -/
def fnExactVacateUptoRow : OpenClaim := { program := "ythjphddodooahaa", sum := "6c39ab7be3b32a5b2e6e86c44efab5dd87c756277f8c32cd6f1ddde10a3d4ec3", func := "loop.example/g00075/laws.FnExactVacate", spec := "fnExactVacate", apart := false, narrowed := true }
def FnExactVacateUptoSaid : Prop := fnExactVacateUptoRow.holds Try.pinned (OpenSpec.upto fnExactVacateSpec)

/-- 'laws.FnExactOccupy', WHERE WHAT IT READS IS OF BULK AT MOST 1048576: true; the input reads as it did. -/
def fnExactOccupyUptoRow : OpenClaim := { program := "ythjphddodooahaa", sum := "6c39ab7be3b32a5b2e6e86c44efab5dd87c756277f8c32cd6f1ddde10a3d4ec3", func := "loop.example/g00075/laws.FnExactOccupy", spec := "fnExactOccupy", apart := false, narrowed := true }
def FnExactOccupyUptoSaid : Prop := fnExactOccupyUptoRow.holds Try.pinned (OpenSpec.upto fnExactOccupySpec)

/-- 'laws.FnExactWithdraw', WHERE WHAT IT READS IS OF BULK AT MOST 1048576: true; the input reads as it did. -/
def fnExactWithdrawUptoRow : OpenClaim := { program := "ythjphddodooahaa", sum := "6c39ab7be3b32a5b2e6e86c44efab5dd87c756277f8c32cd6f1ddde10a3d4ec3", func := "loop.example/g00075/laws.FnExactWithdraw", spec := "fnExactWithdraw", apart := false, narrowed := true }
def FnExactWithdrawUptoSaid : Prop := fnExactWithdrawUptoRow.holds Try.pinned (OpenSpec.upto fnExactWithdrawSpec)

/-- 'laws.FnExactRequest', WHERE WHAT IT READS IS OF BULK AT MOST 1048576: true; the input reads as it did. -/
def fnExactRequestUptoRow : OpenClaim := { program := "ythjphddodooahaa", sum := "6c39ab7be3b32a5b2e6e86c44efab5dd87c756277f8c32cd6f1ddde10a3d4ec3", func := "loop.example/g00075/laws.FnExactRequest", spec := "fnExactRequest", apart := false, narrowed := true }
def FnExactRequestUptoSaid : Prop := fnExactRequestUptoRow.holds Try.pinned (OpenSpec.upto fnExactRequestSpec)

/-- 'laws.FnExactPlayLock', WHERE WHAT IT READS IS OF BULK AT MOST 1048576: true; the input reads as it did. -/
def fnExactPlayLockUptoRow : OpenClaim := { program := "ythjphddodooahaa", sum := "6c39ab7be3b32a5b2e6e86c44efab5dd87c756277f8c32cd6f1ddde10a3d4ec3", func := "loop.example/g00075/laws.FnExactPlayLock", spec := "fnExactPlayLock", apart := false, narrowed := true }
def FnExactPlayLockUptoSaid : Prop := fnExactPlayLockUptoRow.holds Try.pinned (OpenSpec.upto fnExactPlayLockSpec)

end Rows
end Go.Proofs.Ythjphddodooahaa
