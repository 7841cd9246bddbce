/-
  No cell of these rows narrows 'for every input' (looked for: loops, veiled, ifaces, maps, wideKeys, modest, calm, conditions, laid).
  DERIVED. THE GIVEN ROWS OF THIS SEAT. 7 by the template 'for every input the law returns true; each argument reads behind the call as it read before'; 0 by the template 'total and deterministic' (their statements: YtiajbefljkikiaaTotals.lean).
  GIVEN WITH THE SEED: the statements are not yours to turn. If you find one false, say at which input.
  Laid BY PROGRAM, IN A SANDBOX (cutbox-rows.mjs): the forced cells as the released guide's own fill.sh prints them over the translation 90f794cc903cab07… (all of the seat's roots in one cut). By AI agents, Wed Nov 11 2026. No macro, syntax, notation, axiom, sorry.
-/
import Derived.Test.YtiajbefljkikiaaChecked
import GoSem.Claim
import GoSem.ClaimJoined
import GoSem.ClaimMapViews
import Derived.JoinedTies
import Derived.KernelRfl
namespace Go.Proofs.Ytiajbefljkikiaa
/- THE CELL 'sum', in the pinned program and in every row, IS THE sha256 OF THE DUMP (.gsa) THAT YtiajbefljkikiaaProg.lean LOADS. Nothing in Lean hashes anything: it is a label: what it is worth is what the hold of that sum in a sandbox is worth. -/
noncomputable def Try.pinned : Pinned := { name := "ytiajbefljkikiaa", sum := "90f794cc903cab07088ab981d81db99b56761ff100624e3642ceaf26041e1d2a", checked := Try.checked }
namespace Rows
def none {H : Type} : Left H := { results := [], args := [] }

/-- 'laws.FnExactAxles': WHATEVER THE INPUT: true; the input reads as it did. -/
def fnExactAxlesSpec : ChangeSpec := { name := "fnExactAxles", fn := fun _ => fun
  | [d] => { results := [.lit (.bool true)], args := [d] }
  | _ => none }
def fnExactAxlesRow : OpenClaim := { program := "ytiajbefljkikiaa", sum := "90f794cc903cab07088ab981d81db99b56761ff100624e3642ceaf26041e1d2a", func := "loop.example/g00075/laws.FnExactAxles", spec := "fnExactAxles", apart := false }
def FnExactAxlesSaid : Prop := fnExactAxlesRow.holds Try.pinned (OpenSpec.ofChange fnExactAxlesSpec)

/-- ITS FALSE NEIGHBOUR: 'it returns false'. Refute it at one input. -/
def fnExactAxlesWrong : ChangeSpec := { name := "fnExactAxles", fn := fun _ => fun
  | [d] => { results := [.lit (.bool false)], args := [d] }
  | _ => none }
def FnExactAxlesWrongFalsely : Prop := fnExactAxlesRow.holds Try.pinned (OpenSpec.ofChange fnExactAxlesWrong)

/-- 'laws.FnAxles': WHATEVER THE INPUT: true; the input reads as it did. -/
def fnAxlesSpec : ChangeSpec := { name := "fnAxles", fn := fun _ => fun
  | [d] => { results := [.lit (.bool true)], args := [d] }
  | _ => none }
def fnAxlesRow : OpenClaim := { program := "ytiajbefljkikiaa", sum := "90f794cc903cab07088ab981d81db99b56761ff100624e3642ceaf26041e1d2a", func := "loop.example/g00075/laws.FnAxles", spec := "fnAxles", apart := false }
def FnAxlesSaid : Prop := fnAxlesRow.holds Try.pinned (OpenSpec.ofChange fnAxlesSpec)

/-- ITS FALSE NEIGHBOUR: 'it returns false'. Refute it at one input. -/
def fnAxlesWrong : ChangeSpec := { name := "fnAxles", fn := fun _ => fun
  | [d] => { results := [.lit (.bool false)], args := [d] }
  | _ => none }
def FnAxlesWrongFalsely : Prop := fnAxlesRow.holds Try.pinned (OpenSpec.ofChange fnAxlesWrong)

/-- 'laws.FnExactDecode': WHATEVER THE INPUT: true; the input reads as it did. -/
def fnExactDecodeSpec : ChangeSpec := { name := "fnExactDecode", fn := fun _ => fun
  | [d] => { results := [.lit (.bool true)], args := [d] }
  | _ => none }
def fnExactDecodeRow : OpenClaim := { program := "ytiajbefljkikiaa", sum := "90f794cc903cab07088ab981d81db99b56761ff100624e3642ceaf26041e1d2a", func := "loop.example/g00075/laws.FnExactDecode", spec := "fnExactDecode", apart := false }
def FnExactDecodeSaid : Prop := fnExactDecodeRow.holds Try.pinned (OpenSpec.ofChange fnExactDecodeSpec)

/-- ITS FALSE NEIGHBOUR: 'it returns false'. Refute it at one input. -/
def fnExactDecodeWrong : ChangeSpec := { name := "fnExactDecode", fn := fun _ => fun
  | [d] => { results := [.lit (.bool false)], args := [d] }
  | _ => none }
def FnExactDecodeWrongFalsely : Prop := fnExactDecodeRow.holds Try.pinned (OpenSpec.ofChange fnExactDecodeWrong)

/-- 'laws.FnExactShuntOne': WHATEVER THE INPUT: true; the input reads as it did. -/
def fnExactShuntOneSpec : ChangeSpec := { name := "fnExactShuntOne", fn := fun _ => fun
  | [d1, d2] => { results := [.lit (.bool true)], args := [d1, d2] }
  | _ => none }
def fnExactShuntOneRow : OpenClaim := { program := "ytiajbefljkikiaa", sum := "90f794cc903cab07088ab981d81db99b56761ff100624e3642ceaf26041e1d2a", func := "loop.example/g00075/laws.FnExactShuntOne", spec := "fnExactShuntOne", apart := false }
def FnExactShuntOneSaid : Prop := fnExactShuntOneRow.holds Try.pinned (OpenSpec.ofChange fnExactShuntOneSpec)

/-- ITS FALSE NEIGHBOUR: 'it returns false'. Refute it at one input. -/
def fnExactShuntOneWrong : ChangeSpec := { name := "fnExactShuntOne", fn := fun _ => fun
  | [d1, d2] => { results := [.lit (.bool false)], args := [d1, d2] }
  | _ => none }
def FnExactShuntOneWrongFalsely : Prop := fnExactShuntOneRow.holds Try.pinned (OpenSpec.ofChange fnExactShuntOneWrong)

/-- 'laws.FnShunt': WHATEVER THE INPUT: true; the input reads as it did. -/
def fnShuntSpec : ChangeSpec := { name := "fnShunt", fn := fun _ => fun
  | [d] => { results := [.lit (.bool true)], args := [d] }
  | _ => none }
def fnShuntRow : OpenClaim := { program := "ytiajbefljkikiaa", sum := "90f794cc903cab07088ab981d81db99b56761ff100624e3642ceaf26041e1d2a", func := "loop.example/g00075/laws.FnShunt", spec := "fnShunt", apart := false }
def FnShuntSaid : Prop := fnShuntRow.holds Try.pinned (OpenSpec.ofChange fnShuntSpec)

/-- ITS FALSE NEIGHBOUR: 'it returns false'. Refute it at one input. -/
def fnShuntWrong : ChangeSpec := { name := "fnShunt", fn := fun _ => fun
  | [d] => { results := [.lit (.bool false)], args := [d] }
  | _ => none }
def FnShuntWrongFalsely : Prop := fnShuntRow.holds Try.pinned (OpenSpec.ofChange fnShuntWrong)

/-- 'laws.FnExactPlayShunts': WHATEVER THE INPUT: true; the input reads as it did. -/
def fnExactPlayShuntsSpec : ChangeSpec := { name := "fnExactPlayShunts", fn := fun _ => fun
  | [d1, d2] => { results := [.lit (.bool true)], args := [d1, d2] }
  | _ => none }
def fnExactPlayShuntsRow : OpenClaim := { program := "ytiajbefljkikiaa", sum := "90f794cc903cab07088ab981d81db99b56761ff100624e3642ceaf26041e1d2a", func := "loop.example/g00075/laws.FnExactPlayShunts", spec := "fnExactPlayShunts", apart := false }
def FnExactPlayShuntsSaid : Prop := fnExactPlayShuntsRow.holds Try.pinned (OpenSpec.ofChange fnExactPlayShuntsSpec)

/-- ITS FALSE NEIGHBOUR: 'it returns false'. Refute it at one input. -/
def fnExactPlayShuntsWrong : ChangeSpec := { name := "fnExactPlayShunts", fn := fun _ => fun
  | [d1, d2] => { results := [.lit (.bool false)], args := [d1, d2] }
  | _ => none }
def FnExactPlayShuntsWrongFalsely : Prop := fnExactPlayShuntsRow.holds Try.pinned (OpenSpec.ofChange fnExactPlayShuntsWrong)

/-- 'laws.FnExactRelieve': WHATEVER THE INPUT: true; the input reads as it did. -/
def fnExactRelieveSpec : ChangeSpec := { name := "fnExactRelieve", fn := fun _ => fun
  | [d1, d2, d3] => { results := [.lit (.bool true)], args := [d1, d2, d3] }
  | _ => none }
def fnExactRelieveRow : OpenClaim := { program := "ytiajbefljkikiaa", sum := "90f794cc903cab07088ab981d81db99b56761ff100624e3642ceaf26041e1d2a", func := "loop.example/g00075/laws.FnExactRelieve", spec := "fnExactRelieve", apart := false }
def FnExactRelieveSaid : Prop := fnExactRelieveRow.holds Try.pinned (OpenSpec.ofChange fnExactRelieveSpec)

/-- ITS FALSE NEIGHBOUR: 'it returns false'. Refute it at one input. -/
def fnExactRelieveWrong : ChangeSpec := { name := "fnExactRelieve", fn := fun _ => fun
  | [d1, d2, d3] => { results := [.lit (.bool false)], args := [d1, d2, d3] }
  | _ => none }
def FnExactRelieveWrongFalsely : Prop := fnExactRelieveRow.holds Try.pinned (OpenSpec.ofChange fnExactRelieveWrong)

/- THE SECOND FORM. 'bulk': how many values and letters a reading holds, each counted each time it is reached (what is shared counts as often as it is met; a slice's spare places count too). A statement '..UptoSaid' is the law's where the arguments, and the package variables that the reading takes, are together of bulk at most 1048576: NARROWER than '..Said'. Prove '..Said' where nothing that the law and all that it calls make is longer than what came in: it says more and counts as full. Else prove '..UptoSaid'. A law counts once. -/
mutual
def uptoBulk {H : Type} : DataW H → Nat
  | .lit (.string bytes) => bytes.length + 1
  | .lit _ => 1
  | .nil => 1
  | .ptr d => uptoBulk d + 1
  | .slice elems spare => uptoBulkAll elems + uptoBulkAll spare + 1
  | .agg parts => uptoBulkAll parts + 1
  | .iface _ d => uptoBulk d + 1
  | .map entries => uptoBulkEntries entries + 1
  | .held _ => 1
def uptoBulkAll {H : Type} : List (DataW H) → Nat
  | [] => 0
  | d :: r => uptoBulk d + uptoBulkAll r
def uptoBulkEntries {H : Type} : List (Lit × DataW H) → Nat
  | [] => 0
  | x :: r => uptoBulkEntry x + uptoBulkEntries r
def uptoBulkEntry {H : Type} : Lit × DataW H → Nat
  | (.string bytes, d) => bytes.length + uptoBulk d + 1
  | (_, d) => uptoBulk d + 1
 end
def uptoSmall : (H : Type) → List (DataW H) → Bool := fun _ ds => decide (uptoBulkAll ds ≤ 1048576)
def OpenSpec.upto (s : _root_.Go.ChangeSpec) : _root_.Go.OpenSpec := { _root_.Go.OpenSpec.ofChange s with cond := some uptoSmall }

/-- 'laws.FnExactAxles', WHERE WHAT IT READS IS OF BULK AT MOST 1048576: true; the input reads as it did. -/
def fnExactAxlesUptoRow : OpenClaim := { program := "ytiajbefljkikiaa", sum := "90f794cc903cab07088ab981d81db99b56761ff100624e3642ceaf26041e1d2a", func := "loop.example/g00075/laws.FnExactAxles", spec := "fnExactAxles", apart := false, narrowed := true }
def FnExactAxlesUptoSaid : Prop := fnExactAxlesUptoRow.holds Try.pinned (OpenSpec.upto fnExactAxlesSpec)

/-- 'laws.FnAxles', WHERE WHAT IT READS IS OF BULK AT MOST 1048576: true; the input reads as it did. -/
def fnAxlesUptoRow : OpenClaim := { program := "ytiajbefljkikiaa", sum := "90f794cc903cab07088ab981d81db99b56761ff100624e3642ceaf26041e1d2a", func := "loop.example/g00075/laws.FnAxles", spec := "fnAxles", apart := false, narrowed := true }
def FnAxlesUptoSaid : Prop := fnAxlesUptoRow.holds Try.pinned (OpenSpec.upto fnAxlesSpec)

/-- 'laws.FnExactDecode', WHERE WHAT IT READS IS OF BULK AT MOST 1048576: true; the input reads as it did. -/
def fnExactDecodeUptoRow : OpenClaim := { program := "ytiajbefljkikiaa", sum := "90f794cc903cab07088ab981d81db99b56761ff100624e3642ceaf26041e1d2a", func := "loop.example/g00075/laws.FnExactDecode", spec := "fnExactDecode", apart := false, narrowed := true }
def FnExactDecodeUptoSaid : Prop := fnExactDecodeUptoRow.holds Try.pinned (OpenSpec.upto fnExactDecodeSpec)

/-- 'laws.FnExactShuntOne', WHERE WHAT IT READS IS OF BULK AT MOST 1048576: true; the input reads as it did. -/
def fnExactShuntOneUptoRow : OpenClaim := { program := "ytiajbefljkikiaa", sum := "90f794cc903cab07088ab981d81db99b56761ff100624e3642ceaf26041e1d2a", func := "loop.example/g00075/laws.FnExactShuntOne", spec := "fnExactShuntOne", apart := false, narrowed := true }
def FnExactShuntOneUptoSaid : Prop := fnExactShuntOneUptoRow.holds Try.pinned (OpenSpec.upto fnExactShuntOneSpec)

/-- 'laws.FnShunt', WHERE WHAT IT READS IS OF BULK AT MOST 1048576: true; the input reads as it did. -/
def fnShuntUptoRow : OpenClaim := { program := "ytiajbefljkikiaa", sum := "90f794cc903cab07088ab981d81db99b56761ff100624e3642ceaf26041e1d2a", func := "loop.example/g00075/laws.FnShunt", spec := "fnShunt", apart := false, narrowed := true }
def FnShuntUptoSaid : Prop := fnShuntUptoRow.holds Try.pinned (OpenSpec.upto fnShuntSpec)

/-- 'laws.FnExactPlayShunts', WHERE WHAT IT READS IS OF BULK AT MOST 1048576: true; the input reads as it did. -/
def fnExactPlayShuntsUptoRow : OpenClaim := { program := "ytiajbefljkikiaa", sum := "90f794cc903cab07088ab981d81db99b56761ff100624e3642ceaf26041e1d2a", func := "loop.example/g00075/laws.FnExactPlayShunts", spec := "fnExactPlayShunts", apart := false, narrowed := true }
def FnExactPlayShuntsUptoSaid : Prop := fnExactPlayShuntsUptoRow.holds Try.pinned (OpenSpec.upto fnExactPlayShuntsSpec)

/-- 'laws.FnExactRelieve', WHERE WHAT IT READS IS OF BULK AT MOST 1048576: true; the input reads as it did. -/
def fnExactRelieveUptoRow : OpenClaim := { program := "ytiajbefljkikiaa", sum := "90f794cc903cab07088ab981d81db99b56761ff100624e3642ceaf26041e1d2a", func := "loop.example/g00075/laws.FnExactRelieve", spec := "fnExactRelieve", apart := false, narrowed := true }
def FnExactRelieveUptoSaid : Prop := fnExactRelieveUptoRow.holds Try.pinned (OpenSpec.upto fnExactRelieveSpec)

end Rows
end Go.Proofs.Ytiajbefljkikiaa
