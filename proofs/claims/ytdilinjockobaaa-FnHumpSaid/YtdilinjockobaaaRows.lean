/-
  No cell of these rows narrows 'for every input' (looked for: loops, veiled, ifaces, maps, wideKeys, modest, calm, conditions, laid).
  DERIVED. THE GIVEN ROWS OF THIS SEAT. 12 by the template 'for every input the law returns true; each argument reads behind the call as it read before'; 0 by the template 'total and deterministic' (their statements: YtdilinjockobaaaTotals.lean).
  GIVEN WITH THE SEED: the statements are not yours to turn. If you find one false, say at which input.
  Laid BY PROGRAM, IN A SANDBOX (cutbox-rows.mjs): the forced cells as the released guide's own fill.sh prints them over the translation fa755f1cd511c855… (all of the seat's roots in one cut). By AI agents, Wed Nov 11 2026. No macro, syntax, notation, axiom, sorry.
-/
import Derived.Test.YtdilinjockobaaaChecked
import GoSem.Claim
import GoSem.ClaimJoined
import GoSem.ClaimMapViews
import Derived.JoinedTies
import Derived.KernelRfl
namespace Go.Proofs.Ytdilinjockobaaa
/- THE CELL 'sum', in the pinned program and in every row, IS THE sha256 OF THE DUMP (.gsa) THAT YtdilinjockobaaaProg.lean LOADS. Nothing in Lean hashes anything: it is a label: what it is worth is what the hold of that sum in a sandbox is worth. -/
noncomputable def Try.pinned : Pinned := { name := "ytdilinjockobaaa", sum := "fa755f1cd511c8554803608efb9cb3cc81e73c57a73d85617688a8332e52e427", checked := Try.checked }
namespace Rows
def none {H : Type} : Left H := { results := [], args := [] }

/-- 'laws.FnExactUndo': WHATEVER THE INPUT: true; the input reads as it did. -/
def fnExactUndoSpec : ChangeSpec := { name := "fnExactUndo", fn := fun _ => fun
  | [d] => { results := [.lit (.bool true)], args := [d] }
  | _ => none }
def fnExactUndoRow : OpenClaim := { program := "ytdilinjockobaaa", sum := "fa755f1cd511c8554803608efb9cb3cc81e73c57a73d85617688a8332e52e427", func := "loop.example/g00075/laws.FnExactUndo", spec := "fnExactUndo", apart := false }
def FnExactUndoSaid : Prop := fnExactUndoRow.holds Try.pinned (OpenSpec.ofChange fnExactUndoSpec)

/-- ITS FALSE NEIGHBOUR: 'it returns false'. Refute it at one input. -/
def fnExactUndoWrong : ChangeSpec := { name := "fnExactUndo", fn := fun _ => fun
  | [d] => { results := [.lit (.bool false)], args := [d] }
  | _ => none }
def FnExactUndoWrongFalsely : Prop := fnExactUndoRow.holds Try.pinned (OpenSpec.ofChange fnExactUndoWrong)

/-- 'laws.FnExactAccept': WHATEVER THE INPUT: true; the input reads as it did. -/
def fnExactAcceptSpec : ChangeSpec := { name := "fnExactAccept", fn := fun _ => fun
  | [d1, d2] => { results := [.lit (.bool true)], args := [d1, d2] }
  | _ => none }
def fnExactAcceptRow : OpenClaim := { program := "ytdilinjockobaaa", sum := "fa755f1cd511c8554803608efb9cb3cc81e73c57a73d85617688a8332e52e427", func := "loop.example/g00075/laws.FnExactAccept", spec := "fnExactAccept", apart := false }
def FnExactAcceptSaid : Prop := fnExactAcceptRow.holds Try.pinned (OpenSpec.ofChange fnExactAcceptSpec)

/-- ITS FALSE NEIGHBOUR: 'it returns false'. Refute it at one input. -/
def fnExactAcceptWrong : ChangeSpec := { name := "fnExactAccept", fn := fun _ => fun
  | [d1, d2] => { results := [.lit (.bool false)], args := [d1, d2] }
  | _ => none }
def FnExactAcceptWrongFalsely : Prop := fnExactAcceptRow.holds Try.pinned (OpenSpec.ofChange fnExactAcceptWrong)

/-- 'laws.FnExactCrc8': WHATEVER THE INPUT: true; the input reads as it did. -/
def fnExactCrc8Spec : ChangeSpec := { name := "fnExactCrc8", fn := fun _ => fun
  | [d] => { results := [.lit (.bool true)], args := [d] }
  | _ => none }
def fnExactCrc8Row : OpenClaim := { program := "ytdilinjockobaaa", sum := "fa755f1cd511c8554803608efb9cb3cc81e73c57a73d85617688a8332e52e427", func := "loop.example/g00075/laws.FnExactCrc8", spec := "fnExactCrc8", apart := false }
def FnExactCrc8Said : Prop := fnExactCrc8Row.holds Try.pinned (OpenSpec.ofChange fnExactCrc8Spec)

/-- ITS FALSE NEIGHBOUR: 'it returns false'. Refute it at one input. -/
def fnExactCrc8Wrong : ChangeSpec := { name := "fnExactCrc8", fn := fun _ => fun
  | [d] => { results := [.lit (.bool false)], args := [d] }
  | _ => none }
def FnExactCrc8WrongFalsely : Prop := fnExactCrc8Row.holds Try.pinned (OpenSpec.ofChange fnExactCrc8Wrong)

/-- 'laws.FnExactTelegramOk': WHATEVER THE INPUT: true; the input reads as it did. -/
def fnExactTelegramOkSpec : ChangeSpec := { name := "fnExactTelegramOk", fn := fun _ => fun
  | [d] => { results := [.lit (.bool true)], args := [d] }
  | _ => none }
def fnExactTelegramOkRow : OpenClaim := { program := "ytdilinjockobaaa", sum := "fa755f1cd511c8554803608efb9cb3cc81e73c57a73d85617688a8332e52e427", func := "loop.example/g00075/laws.FnExactTelegramOk", spec := "fnExactTelegramOk", apart := false }
def FnExactTelegramOkSaid : Prop := fnExactTelegramOkRow.holds Try.pinned (OpenSpec.ofChange fnExactTelegramOkSpec)

/-- ITS FALSE NEIGHBOUR: 'it returns false'. Refute it at one input. -/
def fnExactTelegramOkWrong : ChangeSpec := { name := "fnExactTelegramOk", fn := fun _ => fun
  | [d] => { results := [.lit (.bool false)], args := [d] }
  | _ => none }
def FnExactTelegramOkWrongFalsely : Prop := fnExactTelegramOkRow.holds Try.pinned (OpenSpec.ofChange fnExactTelegramOkWrong)

/-- 'laws.FnExactInversions': WHATEVER THE INPUT: true; the input reads as it did. -/
def fnExactInversionsSpec : ChangeSpec := { name := "fnExactInversions", fn := fun _ => fun
  | [d] => { results := [.lit (.bool true)], args := [d] }
  | _ => none }
def fnExactInversionsRow : OpenClaim := { program := "ytdilinjockobaaa", sum := "fa755f1cd511c8554803608efb9cb3cc81e73c57a73d85617688a8332e52e427", func := "loop.example/g00075/laws.FnExactInversions", spec := "fnExactInversions", apart := false }
def FnExactInversionsSaid : Prop := fnExactInversionsRow.holds Try.pinned (OpenSpec.ofChange fnExactInversionsSpec)

/-- ITS FALSE NEIGHBOUR: 'it returns false'. Refute it at one input. -/
def fnExactInversionsWrong : ChangeSpec := { name := "fnExactInversions", fn := fun _ => fun
  | [d] => { results := [.lit (.bool false)], args := [d] }
  | _ => none }
def FnExactInversionsWrongFalsely : Prop := fnExactInversionsRow.holds Try.pinned (OpenSpec.ofChange fnExactInversionsWrong)

/-- 'laws.FnPhases': WHATEVER THE INPUT: true; the input reads as it did. -/
def fnPhasesSpec : ChangeSpec := { name := "fnPhases", fn := fun _ => fun
  | [d] => { results := [.lit (.bool true)], args := [d] }
  | _ => none }
def fnPhasesRow : OpenClaim := { program := "ytdilinjockobaaa", sum := "fa755f1cd511c8554803608efb9cb3cc81e73c57a73d85617688a8332e52e427", func := "loop.example/g00075/laws.FnPhases", spec := "fnPhases", apart := false }
def FnPhasesSaid : Prop := fnPhasesRow.holds Try.pinned (OpenSpec.ofChange fnPhasesSpec)

/-- ITS FALSE NEIGHBOUR: 'it returns false'. Refute it at one input. -/
def fnPhasesWrong : ChangeSpec := { name := "fnPhases", fn := fun _ => fun
  | [d] => { results := [.lit (.bool false)], args := [d] }
  | _ => none }
def FnPhasesWrongFalsely : Prop := fnPhasesRow.holds Try.pinned (OpenSpec.ofChange fnPhasesWrong)

/-- 'laws.FnExactHumpPass': WHATEVER THE INPUT: true; the input reads as it did. -/
def fnExactHumpPassSpec : ChangeSpec := { name := "fnExactHumpPass", fn := fun _ => fun
  | [d1, d2, d3] => { results := [.lit (.bool true)], args := [d1, d2, d3] }
  | _ => none }
def fnExactHumpPassRow : OpenClaim := { program := "ytdilinjockobaaa", sum := "fa755f1cd511c8554803608efb9cb3cc81e73c57a73d85617688a8332e52e427", func := "loop.example/g00075/laws.FnExactHumpPass", spec := "fnExactHumpPass", apart := false }
def FnExactHumpPassSaid : Prop := fnExactHumpPassRow.holds Try.pinned (OpenSpec.ofChange fnExactHumpPassSpec)

/-- ITS FALSE NEIGHBOUR: 'it returns false'. Refute it at one input. -/
def fnExactHumpPassWrong : ChangeSpec := { name := "fnExactHumpPass", fn := fun _ => fun
  | [d1, d2, d3] => { results := [.lit (.bool false)], args := [d1, d2, d3] }
  | _ => none }
def FnExactHumpPassWrongFalsely : Prop := fnExactHumpPassRow.holds Try.pinned (OpenSpec.ofChange fnExactHumpPassWrong)

/-- 'laws.FnExactPhases': WHATEVER THE INPUT: true; the input reads as it did. -/
def fnExactPhasesSpec : ChangeSpec := { name := "fnExactPhases", fn := fun _ => fun
  | [d1, d2] => { results := [.lit (.bool true)], args := [d1, d2] }
  | _ => none }
def fnExactPhasesRow : OpenClaim := { program := "ytdilinjockobaaa", sum := "fa755f1cd511c8554803608efb9cb3cc81e73c57a73d85617688a8332e52e427", func := "loop.example/g00075/laws.FnExactPhases", spec := "fnExactPhases", apart := false }
def FnExactPhasesSaid : Prop := fnExactPhasesRow.holds Try.pinned (OpenSpec.ofChange fnExactPhasesSpec)

/-- ITS FALSE NEIGHBOUR: 'it returns false'. Refute it at one input. -/
def fnExactPhasesWrong : ChangeSpec := { name := "fnExactPhases", fn := fun _ => fun
  | [d1, d2] => { results := [.lit (.bool false)], args := [d1, d2] }
  | _ => none }
def FnExactPhasesWrongFalsely : Prop := fnExactPhasesRow.holds Try.pinned (OpenSpec.ofChange fnExactPhasesWrong)

/-- 'laws.FnExactHumpSort': WHATEVER THE INPUT: true; the input reads as it did. -/
def fnExactHumpSortSpec : ChangeSpec := { name := "fnExactHumpSort", fn := fun _ => fun
  | [d1, d2] => { results := [.lit (.bool true)], args := [d1, d2] }
  | _ => none }
def fnExactHumpSortRow : OpenClaim := { program := "ytdilinjockobaaa", sum := "fa755f1cd511c8554803608efb9cb3cc81e73c57a73d85617688a8332e52e427", func := "loop.example/g00075/laws.FnExactHumpSort", spec := "fnExactHumpSort", apart := false }
def FnExactHumpSortSaid : Prop := fnExactHumpSortRow.holds Try.pinned (OpenSpec.ofChange fnExactHumpSortSpec)

/-- ITS FALSE NEIGHBOUR: 'it returns false'. Refute it at one input. -/
def fnExactHumpSortWrong : ChangeSpec := { name := "fnExactHumpSort", fn := fun _ => fun
  | [d1, d2] => { results := [.lit (.bool false)], args := [d1, d2] }
  | _ => none }
def FnExactHumpSortWrongFalsely : Prop := fnExactHumpSortRow.holds Try.pinned (OpenSpec.ofChange fnExactHumpSortWrong)

/-- 'laws.FnExactSidingsOk': WHATEVER THE INPUT: true; the input reads as it did. -/
def fnExactSidingsOkSpec : ChangeSpec := { name := "fnExactSidingsOk", fn := fun _ => fun
  | [d] => { results := [.lit (.bool true)], args := [d] }
  | _ => none }
def fnExactSidingsOkRow : OpenClaim := { program := "ytdilinjockobaaa", sum := "fa755f1cd511c8554803608efb9cb3cc81e73c57a73d85617688a8332e52e427", func := "loop.example/g00075/laws.FnExactSidingsOk", spec := "fnExactSidingsOk", apart := false }
def FnExactSidingsOkSaid : Prop := fnExactSidingsOkRow.holds Try.pinned (OpenSpec.ofChange fnExactSidingsOkSpec)

/-- ITS FALSE NEIGHBOUR: 'it returns false'. Refute it at one input. -/
def fnExactSidingsOkWrong : ChangeSpec := { name := "fnExactSidingsOk", fn := fun _ => fun
  | [d] => { results := [.lit (.bool false)], args := [d] }
  | _ => none }
def FnExactSidingsOkWrongFalsely : Prop := fnExactSidingsOkRow.holds Try.pinned (OpenSpec.ofChange fnExactSidingsOkWrong)

/-- 'laws.FnExactEncode': WHATEVER THE INPUT: true; the input reads as it did. -/
def fnExactEncodeSpec : ChangeSpec := { name := "fnExactEncode", fn := fun _ => fun
  | [d] => { results := [.lit (.bool true)], args := [d] }
  | _ => none }
def fnExactEncodeRow : OpenClaim := { program := "ytdilinjockobaaa", sum := "fa755f1cd511c8554803608efb9cb3cc81e73c57a73d85617688a8332e52e427", func := "loop.example/g00075/laws.FnExactEncode", spec := "fnExactEncode", apart := false }
def FnExactEncodeSaid : Prop := fnExactEncodeRow.holds Try.pinned (OpenSpec.ofChange fnExactEncodeSpec)

/-- ITS FALSE NEIGHBOUR: 'it returns false'. Refute it at one input. -/
def fnExactEncodeWrong : ChangeSpec := { name := "fnExactEncode", fn := fun _ => fun
  | [d] => { results := [.lit (.bool false)], args := [d] }
  | _ => none }
def FnExactEncodeWrongFalsely : Prop := fnExactEncodeRow.holds Try.pinned (OpenSpec.ofChange fnExactEncodeWrong)

/-- 'laws.FnHump': WHATEVER THE INPUT: true; the input reads as it did. -/
def fnHumpSpec : ChangeSpec := { name := "fnHump", fn := fun _ => fun
  | [d] => { results := [.lit (.bool true)], args := [d] }
  | _ => none }
def fnHumpRow : OpenClaim := { program := "ytdilinjockobaaa", sum := "fa755f1cd511c8554803608efb9cb3cc81e73c57a73d85617688a8332e52e427", func := "loop.example/g00075/laws.FnHump", spec := "fnHump", apart := false }
def FnHumpSaid : Prop := fnHumpRow.holds Try.pinned (OpenSpec.ofChange fnHumpSpec)

/-- ITS FALSE NEIGHBOUR: 'it returns false'. Refute it at one input. -/
def fnHumpWrong : ChangeSpec := { name := "fnHump", fn := fun _ => fun
  | [d] => { results := [.lit (.bool false)], args := [d] }
  | _ => none }
def FnHumpWrongFalsely : Prop := fnHumpRow.holds Try.pinned (OpenSpec.ofChange fnHumpWrong)

/- THE SECOND FORM. 'bulk': how many values and letters a reading holds, each counted each time it is reached (what is shared counts as often as it is met; a slice's spare places count too). A statement '..UptoSaid' is the law's where the arguments, and the package variables that the reading takes, are together of bulk at most 1048576: NARROWER than '..Said'. Prove '..Said' where nothing that the law and all that it calls make is longer than what came in: it says more and counts as full. Else prove '..UptoSaid'. A law counts once. -/
mutual
def uptoBulk {H : Type} : DataW H → Nat
  | .lit (.string bytes) => bytes.length + 1
  | .lit _ => 1
  | .nil => 1
  | .ptr d => uptoBulk d + 1
  | .slice elems spare => uptoBulkAll elems + uptoBulkAll spare + 1
  | .agg parts => uptoBulkAll parts + 1
  | .iface _ d => uptoBulk d + 1
  | .map entries => uptoBulkEntries entries + 1
  | .held _ => 1
def uptoBulkAll {H : Type} : List (DataW H) → Nat
  | [] => 0
  | d :: r => uptoBulk d + uptoBulkAll r
def uptoBulkEntries {H : Type} : List (Lit × DataW H) → Nat
  | [] => 0
  | x :: r => uptoBulkEntry x + uptoBulkEntries r
def uptoBulkEntry {H : Type} : Lit × DataW H → Nat
  | (.string bytes, d) => bytes.length + uptoBulk d + 1
  | (_, d) => uptoBulk d + 1
 end
def uptoSmall : (H : Type) → List (DataW H) → Bool := fun _ ds => decide (uptoBulkAll ds ≤ 1048576)
def OpenSpec.upto (s : _root_.Go.ChangeSpec) : _root_.Go.OpenSpec := { _root_.Go.OpenSpec.ofChange s with cond := some uptoSmall }

/-- 'laws.FnExactUndo', WHERE WHAT IT READS IS OF BULK AT MOST 1048576: true; the input reads as it did. -/
def fnExactUndoUptoRow : OpenClaim := { program := "ytdilinjockobaaa", sum := "fa755f1cd511c8554803608efb9cb3cc81e73c57a73d85617688a8332e52e427", func := "loop.example/g00075/laws.FnExactUndo", spec := "fnExactUndo", apart := false, narrowed := true }
def FnExactUndoUptoSaid : Prop := fnExactUndoUptoRow.holds Try.pinned (OpenSpec.upto fnExactUndoSpec)

/-- 'laws.FnExactAccept', WHERE WHAT IT READS IS OF BULK AT MOST 1048576: true; the input reads as it did. -/
def fnExactAcceptUptoRow : OpenClaim := { program := "ytdilinjockobaaa", sum := "fa755f1cd511c8554803608efb9cb3cc81e73c57a73d85617688a8332e52e427", func := "loop.example/g00075/laws.FnExactAccept", spec := "fnExactAccept", apart := false, narrowed := true }
def FnExactAcceptUptoSaid : Prop := fnExactAcceptUptoRow.holds Try.pinned (OpenSpec.upto fnExactAcceptSpec)

/-- 'laws.FnExactCrc8', WHERE WHAT IT READS IS OF BULK AT MOST 1048576: true; the input reads as it did. -/
def fnExactCrc8UptoRow : OpenClaim := { program := "ytdilinjockobaaa", sum := "fa755f1cd511c8554803608efb9cb3cc81e73c57a73d85617688a8332e52e427", func := "loop.example/g00075/laws.FnExactCrc8", spec := "fnExactCrc8", apart := false, narrowed := true }
def FnExactCrc8UptoSaid : Prop := fnExactCrc8UptoRow.holds Try.pinned (OpenSpec.upto fnExactCrc8Spec)

/-- 'laws.FnExactTelegramOk', WHERE WHAT IT READS IS OF BULK AT MOST 1048576: true; the input reads as it did. -/
def fnExactTelegramOkUptoRow : OpenClaim := { program := "ytdilinjockobaaa", sum := "fa755f1cd511c8554803608efb9cb3cc81e73c57a73d85617688a8332e52e427", func := "loop.example/g00075/laws.FnExactTelegramOk", spec := "fnExactTelegramOk", apart := false, narrowed := true }
def FnExactTelegramOkUptoSaid : Prop := fnExactTelegramOkUptoRow.holds Try.pinned (OpenSpec.upto fnExactTelegramOkSpec)

/-- 'laws.FnExactInversions', WHERE WHAT IT READS IS OF BULK AT MOST 1048576: true; the input reads as it did. -/
def fnExactInversionsUptoRow : OpenClaim := { program := "ytdilinjockobaaa", sum := "fa755f1cd511c8554803608efb9cb3cc81e73c57a73d85617688a8332e52e427", func := "loop.example/g00075/laws.FnExactInversions", spec := "fnExactInversions", apart := false, narrowed := true }
def FnExactInversionsUptoSaid : Prop := fnExactInversionsUptoRow.holds Try.pinned (OpenSpec.upto fnExactInversionsSpec)

/-- 'laws.FnPhases', WHERE WHAT IT READS IS OF BULK AT MOST 1048576: true; the input reads as it did. -/
def fnPhasesUptoRow : OpenClaim := { program := "ytdilinjockobaaa", sum := "fa755f1cd511c8554803608efb9cb3cc81e73c57a73d85617688a8332e52e427", func := "loop.example/g00075/laws.FnPhases", spec := "fnPhases", apart := false, narrowed := true }
def FnPhasesUptoSaid : Prop := fnPhasesUptoRow.holds Try.pinned (OpenSpec.upto fnPhasesSpec)

/-- 'laws.FnExactHumpPass', WHERE WHAT IT READS IS OF BULK AT MOST 1048576: true; the input reads as it did. -/
def fnExactHumpPassUptoRow : OpenClaim := { program := "ytdilinjockobaaa", sum := "fa755f1cd511c8554803608efb9cb3cc81e73c57a73d85617688a8332e52e427", func := "loop.example/g00075/laws.FnExactHumpPass", spec := "fnExactHumpPass", apart := false, narrowed := true }
def FnExactHumpPassUptoSaid : Prop := fnExactHumpPassUptoRow.holds Try.pinned (OpenSpec.upto fnExactHumpPassSpec)

/-- 'laws.FnExactPhases', WHERE WHAT IT READS IS OF BULK AT MOST 1048576: true; the input reads as it did. -/
def fnExactPhasesUptoRow : OpenClaim := { program := "ytdilinjockobaaa", sum := "fa755f1cd511c8554803608efb9cb3cc81e73c57a73d85617688a8332e52e427", func := "loop.example/g00075/laws.FnExactPhases", spec := "fnExactPhases", apart := false, narrowed := true }
def FnExactPhasesUptoSaid : Prop := fnExactPhasesUptoRow.holds Try.pinned (OpenSpec.upto fnExactPhasesSpec)

/-- 'laws.FnExactHumpSort', WHERE WHAT IT READS IS OF BULK AT MOST 1048576: true; the input reads as it did. -/
def fnExactHumpSortUptoRow : OpenClaim := { program := "ytdilinjockobaaa", sum := "fa755f1cd511c8554803608efb9cb3cc81e73c57a73d85617688a8332e52e427", func := "loop.example/g00075/laws.FnExactHumpSort", spec := "fnExactHumpSort", apart := false, narrowed := true }
def FnExactHumpSortUptoSaid : Prop := fnExactHumpSortUptoRow.holds Try.pinned (OpenSpec.upto fnExactHumpSortSpec)

/-- 'laws.FnExactSidingsOk', WHERE WHAT IT READS IS OF BULK AT MOST 1048576: true; the input reads as it did. -/
def fnExactSidingsOkUptoRow : OpenClaim := { program := "ytdilinjockobaaa", sum := "fa755f1cd511c8554803608efb9cb3cc81e73c57a73d85617688a8332e52e427", func := "loop.example/g00075/laws.FnExactSidingsOk", spec := "fnExactSidingsOk", apart := false, narrowed := true }
def FnExactSidingsOkUptoSaid : Prop := fnExactSidingsOkUptoRow.holds Try.pinned (OpenSpec.upto fnExactSidingsOkSpec)

/-- 'laws.FnExactEncode', WHERE WHAT IT READS IS OF BULK AT MOST 1048576: true; the input reads as it did. -/
def fnExactEncodeUptoRow : OpenClaim := { program := "ytdilinjockobaaa", sum := "fa755f1cd511c8554803608efb9cb3cc81e73c57a73d85617688a8332e52e427", func := "loop.example/g00075/laws.FnExactEncode", spec := "fnExactEncode", apart := false, narrowed := true }
def FnExactEncodeUptoSaid : Prop := fnExactEncodeUptoRow.holds Try.pinned (OpenSpec.upto fnExactEncodeSpec)

/-- 'laws.FnHump', WHERE WHAT IT READS IS OF BULK AT MOST 1048576: true; the input reads as it did. -/
def fnHumpUptoRow : OpenClaim := { program := "ytdilinjockobaaa", sum := "fa755f1cd511c8554803608efb9cb3cc81e73c57a73d85617688a8332e52e427", func := "loop.example/g00075/laws.FnHump", spec := "fnHump", apart := false, narrowed := true }
def FnHumpUptoSaid : Prop := fnHumpUptoRow.holds Try.pinned (OpenSpec.upto fnHumpSpec)

end Rows
end Go.Proofs.Ytdilinjockobaaa
