/-
  No cell of these rows narrows 'for every input' (looked for: loops, veiled, ifaces, maps, wideKeys, modest, calm, conditions, laid).
  DERIVED. THE GIVEN ROWS OF THIS SEAT. 11 by the template 'for every input the law returns true; each argument reads behind the call as it read before'; 0 by the template 'total and deterministic' (their statements: YtjjglonmaajjoaaTotals.lean).
  GIVEN WITH THE SEED: the statements are not yours to turn. If you find one false, say at which input.
  Laid BY PROGRAM, IN A SANDBOX (cutbox-rows.mjs): the forced cells as the released guide's own fill.sh prints them over the translation 395ec7c6739d9285… (all of the seat's roots in one cut). By AI agents, Wed Nov 11 2026. No macro, syntax, notation, axiom, sorry.
-/
import Derived.Test.YtjjglonmaajjoaaChecked
import GoSem.Claim
import GoSem.ClaimJoined
import GoSem.ClaimMapViews
import Derived.JoinedTies
import Derived.KernelRfl
namespace Go.Proofs.Ytjjglonmaajjoaa
/- THE CELL 'sum', in the pinned program and in every row, IS THE sha256 OF THE DUMP (.gsa) THAT YtjjglonmaajjoaaProg.lean LOADS. Nothing in Lean hashes anything: it is a label: what it is worth is what the hold of that sum in a sandbox is worth. -/
noncomputable def Try.pinned : Pinned := { name := "ytjjglonmaajjoaa", sum := "395ec7c6739d9285cebf03d15f1725569fc230ea85e80ff0db725e728db8984e", checked := Try.checked }
namespace Rows
def none {H : Type} : Left H := { results := [], args := [] }

/-- 'laws.FnPlan': WHATEVER THE INPUT: true; the input reads as it did. -/
def fnPlanSpec : ChangeSpec := { name := "fnPlan", fn := fun _ => fun
  | [d] => { results := [.lit (.bool true)], args := [d] }
  | _ => none }
def fnPlanRow : OpenClaim := { program := "ytjjglonmaajjoaa", sum := "395ec7c6739d9285cebf03d15f1725569fc230ea85e80ff0db725e728db8984e", func := "loop.example/g00075/laws.FnPlan", spec := "fnPlan", unfollowed := true, recurses := true, apart := false }
def FnPlanSaid : Prop := fnPlanRow.holds Try.pinned (OpenSpec.ofChange fnPlanSpec)

/-- ITS FALSE NEIGHBOUR: 'it returns false'. Refute it at one input. -/
def fnPlanWrong : ChangeSpec := { name := "fnPlan", fn := fun _ => fun
  | [d] => { results := [.lit (.bool false)], args := [d] }
  | _ => none }
def FnPlanWrongFalsely : Prop := fnPlanRow.holds Try.pinned (OpenSpec.ofChange fnPlanWrong)

/-- 'laws.FnDay': WHATEVER THE INPUT: true; the input reads as it did. -/
def fnDaySpec : ChangeSpec := { name := "fnDay", fn := fun _ => fun
  | [d] => { results := [.lit (.bool true)], args := [d] }
  | _ => none }
def fnDayRow : OpenClaim := { program := "ytjjglonmaajjoaa", sum := "395ec7c6739d9285cebf03d15f1725569fc230ea85e80ff0db725e728db8984e", func := "loop.example/g00075/laws.FnDay", spec := "fnDay", unfollowed := true, recurses := true, apart := false }
def FnDaySaid : Prop := fnDayRow.holds Try.pinned (OpenSpec.ofChange fnDaySpec)

/-- ITS FALSE NEIGHBOUR: 'it returns false'. Refute it at one input. -/
def fnDayWrong : ChangeSpec := { name := "fnDay", fn := fun _ => fun
  | [d] => { results := [.lit (.bool false)], args := [d] }
  | _ => none }
def FnDayWrongFalsely : Prop := fnDayRow.holds Try.pinned (OpenSpec.ofChange fnDayWrong)

/-- 'laws.FnOnEdges': WHATEVER THE INPUT: true; the input reads as it did. -/
def fnOnEdgesSpec : ChangeSpec := { name := "fnOnEdges", fn := fun _ => fun
  | [d] => { results := [.lit (.bool true)], args := [d] }
  | _ => none }
def fnOnEdgesRow : OpenClaim := { program := "ytjjglonmaajjoaa", sum := "395ec7c6739d9285cebf03d15f1725569fc230ea85e80ff0db725e728db8984e", func := "loop.example/g00075/laws.FnOnEdges", spec := "fnOnEdges", unfollowed := true, recurses := true, apart := false }
def FnOnEdgesSaid : Prop := fnOnEdgesRow.holds Try.pinned (OpenSpec.ofChange fnOnEdgesSpec)

/-- ITS FALSE NEIGHBOUR: 'it returns false'. Refute it at one input. -/
def fnOnEdgesWrong : ChangeSpec := { name := "fnOnEdges", fn := fun _ => fun
  | [d] => { results := [.lit (.bool false)], args := [d] }
  | _ => none }
def FnOnEdgesWrongFalsely : Prop := fnOnEdgesRow.holds Try.pinned (OpenSpec.ofChange fnOnEdgesWrong)

/-- 'laws.FnExactWaited': WHATEVER THE INPUT: true; the input reads as it did. -/
def fnExactWaitedSpec : ChangeSpec := { name := "fnExactWaited", fn := fun _ => fun
  | [d1, d2, d3] => { results := [.lit (.bool true)], args := [d1, d2, d3] }
  | _ => none }
def fnExactWaitedRow : OpenClaim := { program := "ytjjglonmaajjoaa", sum := "395ec7c6739d9285cebf03d15f1725569fc230ea85e80ff0db725e728db8984e", func := "loop.example/g00075/laws.FnExactWaited", spec := "fnExactWaited", unfollowed := true, recurses := true, apart := false }
def FnExactWaitedSaid : Prop := fnExactWaitedRow.holds Try.pinned (OpenSpec.ofChange fnExactWaitedSpec)

/-- ITS FALSE NEIGHBOUR: 'it returns false'. Refute it at one input. -/
def fnExactWaitedWrong : ChangeSpec := { name := "fnExactWaited", fn := fun _ => fun
  | [d1, d2, d3] => { results := [.lit (.bool false)], args := [d1, d2, d3] }
  | _ => none }
def FnExactWaitedWrongFalsely : Prop := fnExactWaitedRow.holds Try.pinned (OpenSpec.ofChange fnExactWaitedWrong)

/-- 'laws.FnExactPunctual': WHATEVER THE INPUT: true; the input reads as it did. -/
def fnExactPunctualSpec : ChangeSpec := { name := "fnExactPunctual", fn := fun _ => fun
  | [d1, d2, d3, d4] => { results := [.lit (.bool true)], args := [d1, d2, d3, d4] }
  | _ => none }
def fnExactPunctualRow : OpenClaim := { program := "ytjjglonmaajjoaa", sum := "395ec7c6739d9285cebf03d15f1725569fc230ea85e80ff0db725e728db8984e", func := "loop.example/g00075/laws.FnExactPunctual", spec := "fnExactPunctual", unfollowed := true, recurses := true, apart := false }
def FnExactPunctualSaid : Prop := fnExactPunctualRow.holds Try.pinned (OpenSpec.ofChange fnExactPunctualSpec)

/-- ITS FALSE NEIGHBOUR: 'it returns false'. Refute it at one input. -/
def fnExactPunctualWrong : ChangeSpec := { name := "fnExactPunctual", fn := fun _ => fun
  | [d1, d2, d3, d4] => { results := [.lit (.bool false)], args := [d1, d2, d3, d4] }
  | _ => none }
def FnExactPunctualWrongFalsely : Prop := fnExactPunctualRow.holds Try.pinned (OpenSpec.ofChange fnExactPunctualWrong)

/-- 'laws.FnExactLateAt': WHATEVER THE INPUT: true; the input reads as it did. -/
def fnExactLateAtSpec : ChangeSpec := { name := "fnExactLateAt", fn := fun _ => fun
  | [d1, d2, d3] => { results := [.lit (.bool true)], args := [d1, d2, d3] }
  | _ => none }
def fnExactLateAtRow : OpenClaim := { program := "ytjjglonmaajjoaa", sum := "395ec7c6739d9285cebf03d15f1725569fc230ea85e80ff0db725e728db8984e", func := "loop.example/g00075/laws.FnExactLateAt", spec := "fnExactLateAt", unfollowed := true, recurses := true, apart := false }
def FnExactLateAtSaid : Prop := fnExactLateAtRow.holds Try.pinned (OpenSpec.ofChange fnExactLateAtSpec)

/-- ITS FALSE NEIGHBOUR: 'it returns false'. Refute it at one input. -/
def fnExactLateAtWrong : ChangeSpec := { name := "fnExactLateAt", fn := fun _ => fun
  | [d1, d2, d3] => { results := [.lit (.bool false)], args := [d1, d2, d3] }
  | _ => none }
def FnExactLateAtWrongFalsely : Prop := fnExactLateAtRow.holds Try.pinned (OpenSpec.ofChange fnExactLateAtWrong)

/-- 'laws.FnExactOnEdges': WHATEVER THE INPUT: true; the input reads as it did. -/
def fnExactOnEdgesSpec : ChangeSpec := { name := "fnExactOnEdges", fn := fun _ => fun
  | [d1, d2, d3, d4] => { results := [.lit (.bool true)], args := [d1, d2, d3, d4] }
  | _ => none }
def fnExactOnEdgesRow : OpenClaim := { program := "ytjjglonmaajjoaa", sum := "395ec7c6739d9285cebf03d15f1725569fc230ea85e80ff0db725e728db8984e", func := "loop.example/g00075/laws.FnExactOnEdges", spec := "fnExactOnEdges", unfollowed := true, recurses := true, apart := false }
def FnExactOnEdgesSaid : Prop := fnExactOnEdgesRow.holds Try.pinned (OpenSpec.ofChange fnExactOnEdgesSpec)

/-- ITS FALSE NEIGHBOUR: 'it returns false'. Refute it at one input. -/
def fnExactOnEdgesWrong : ChangeSpec := { name := "fnExactOnEdges", fn := fun _ => fun
  | [d1, d2, d3, d4] => { results := [.lit (.bool false)], args := [d1, d2, d3, d4] }
  | _ => none }
def FnExactOnEdgesWrongFalsely : Prop := fnExactOnEdgesRow.holds Try.pinned (OpenSpec.ofChange fnExactOnEdgesWrong)

/-- 'laws.FnExactPlayDay': WHATEVER THE INPUT: true; the input reads as it did. -/
def fnExactPlayDaySpec : ChangeSpec := { name := "fnExactPlayDay", fn := fun _ => fun
  | [d1, d2, d3] => { results := [.lit (.bool true)], args := [d1, d2, d3] }
  | _ => none }
def fnExactPlayDayRow : OpenClaim := { program := "ytjjglonmaajjoaa", sum := "395ec7c6739d9285cebf03d15f1725569fc230ea85e80ff0db725e728db8984e", func := "loop.example/g00075/laws.FnExactPlayDay", spec := "fnExactPlayDay", unfollowed := true, recurses := true, apart := false }
def FnExactPlayDaySaid : Prop := fnExactPlayDayRow.holds Try.pinned (OpenSpec.ofChange fnExactPlayDaySpec)

/-- ITS FALSE NEIGHBOUR: 'it returns false'. Refute it at one input. -/
def fnExactPlayDayWrong : ChangeSpec := { name := "fnExactPlayDay", fn := fun _ => fun
  | [d1, d2, d3] => { results := [.lit (.bool false)], args := [d1, d2, d3] }
  | _ => none }
def FnExactPlayDayWrongFalsely : Prop := fnExactPlayDayRow.holds Try.pinned (OpenSpec.ofChange fnExactPlayDayWrong)

/-- 'laws.FnExactPlanned': WHATEVER THE INPUT: true; the input reads as it did. -/
def fnExactPlannedSpec : ChangeSpec := { name := "fnExactPlanned", fn := fun _ => fun
  | [d1, d2] => { results := [.lit (.bool true)], args := [d1, d2] }
  | _ => none }
def fnExactPlannedRow : OpenClaim := { program := "ytjjglonmaajjoaa", sum := "395ec7c6739d9285cebf03d15f1725569fc230ea85e80ff0db725e728db8984e", func := "loop.example/g00075/laws.FnExactPlanned", spec := "fnExactPlanned", unfollowed := true, recurses := true, apart := false }
def FnExactPlannedSaid : Prop := fnExactPlannedRow.holds Try.pinned (OpenSpec.ofChange fnExactPlannedSpec)

/-- ITS FALSE NEIGHBOUR: 'it returns false'. Refute it at one input. -/
def fnExactPlannedWrong : ChangeSpec := { name := "fnExactPlanned", fn := fun _ => fun
  | [d1, d2] => { results := [.lit (.bool false)], args := [d1, d2] }
  | _ => none }
def FnExactPlannedWrongFalsely : Prop := fnExactPlannedRow.holds Try.pinned (OpenSpec.ofChange fnExactPlannedWrong)

/-- 'laws.FnExactDayOk': WHATEVER THE INPUT: true; the input reads as it did. -/
def fnExactDayOkSpec : ChangeSpec := { name := "fnExactDayOk", fn := fun _ => fun
  | [d1, d2, d3] => { results := [.lit (.bool true)], args := [d1, d2, d3] }
  | _ => none }
def fnExactDayOkRow : OpenClaim := { program := "ytjjglonmaajjoaa", sum := "395ec7c6739d9285cebf03d15f1725569fc230ea85e80ff0db725e728db8984e", func := "loop.example/g00075/laws.FnExactDayOk", spec := "fnExactDayOk", unfollowed := true, recurses := true, apart := false }
def FnExactDayOkSaid : Prop := fnExactDayOkRow.holds Try.pinned (OpenSpec.ofChange fnExactDayOkSpec)

/-- ITS FALSE NEIGHBOUR: 'it returns false'. Refute it at one input. -/
def fnExactDayOkWrong : ChangeSpec := { name := "fnExactDayOk", fn := fun _ => fun
  | [d1, d2, d3] => { results := [.lit (.bool false)], args := [d1, d2, d3] }
  | _ => none }
def FnExactDayOkWrongFalsely : Prop := fnExactDayOkRow.holds Try.pinned (OpenSpec.ofChange fnExactDayOkWrong)

/-- 'laws.FnExactApart': WHATEVER THE INPUT: true; the input reads as it did. -/
def fnExactApartSpec : ChangeSpec := { name := "fnExactApart", fn := fun _ => fun
  | [d1, d2, d3] => { results := [.lit (.bool true)], args := [d1, d2, d3] }
  | _ => none }
def fnExactApartRow : OpenClaim := { program := "ytjjglonmaajjoaa", sum := "395ec7c6739d9285cebf03d15f1725569fc230ea85e80ff0db725e728db8984e", func := "loop.example/g00075/laws.FnExactApart", spec := "fnExactApart", unfollowed := true, recurses := true, apart := false }
def FnExactApartSaid : Prop := fnExactApartRow.holds Try.pinned (OpenSpec.ofChange fnExactApartSpec)

/-- ITS FALSE NEIGHBOUR: 'it returns false'. Refute it at one input. -/
def fnExactApartWrong : ChangeSpec := { name := "fnExactApart", fn := fun _ => fun
  | [d1, d2, d3] => { results := [.lit (.bool false)], args := [d1, d2, d3] }
  | _ => none }
def FnExactApartWrongFalsely : Prop := fnExactApartRow.holds Try.pinned (OpenSpec.ofChange fnExactApartWrong)

/- THE SECOND FORM. 'bulk': how many values and letters a reading holds, each counted each time it is reached (what is shared counts as often as it is met; a slice's spare places count too). A statement '..UptoSaid' is the law's where the arguments, and the package variables that the reading takes, are together of bulk at most 1048576: NARROWER than '..Said'. Prove '..Said' where nothing that the law and all that it calls make is longer than what came in: it says more and counts as full. Else prove '..UptoSaid'. A law counts once. -/
mutual
def uptoBulk {H : Type} : DataW H → Nat
  | .lit (.string bytes) => bytes.length + 1
  | .lit _ => 1
  | .nil => 1
  | .ptr d => uptoBulk d + 1
  | .slice elems spare => uptoBulkAll elems + uptoBulkAll spare + 1
  | .agg parts => uptoBulkAll parts + 1
  | .iface _ d => uptoBulk d + 1
  | .map entries => uptoBulkEntries entries + 1
  | .held _ => 1
def uptoBulkAll {H : Type} : List (DataW H) → Nat
  | [] => 0
  | d :: r => uptoBulk d + uptoBulkAll r
def uptoBulkEntries {H : Type} : List (Lit × DataW H) → Nat
  | [] => 0
  | x :: r => uptoBulkEntry x + uptoBulkEntries r
def uptoBulkEntry {H : Type} : Lit × DataW H → Nat
  | (.string bytes, d) => bytes.length + uptoBulk d + 1
  | (_, d) => uptoBulk d + 1
 end
def uptoSmall : (H : Type) → List (DataW H) → Bool := fun _ ds => decide (uptoBulkAll ds ≤ 1048576)
def OpenSpec.upto (s : _root_.Go.ChangeSpec) : _root_.Go.OpenSpec := { _root_.Go.OpenSpec.ofChange s with cond := some uptoSmall }

/-- 'laws.FnPlan', WHERE WHAT IT READS IS OF BULK AT MOST 1048576: true; the input reads as it did. -/
def fnPlanUptoRow : OpenClaim := { program := "ytjjglonmaajjoaa", sum := "395ec7c6739d9285cebf03d15f1725569fc230ea85e80ff0db725e728db8984e", func := "loop.example/g00075/laws.FnPlan", spec := "fnPlan", unfollowed := true, recurses := true, apart := false, narrowed := true }
def FnPlanUptoSaid : Prop := fnPlanUptoRow.holds Try.pinned (OpenSpec.upto fnPlanSpec)

/-- 'laws.FnDay', WHERE WHAT IT READS IS OF BULK AT MOST 1048576: true; the input reads as it did. -/
def fnDayUptoRow : OpenClaim := { program := "ytjjglonmaajjoaa", sum := "395ec7c6739d9285cebf03d15f1725569fc230ea85e80ff0db725e728db8984e", func := "loop.example/g00075/laws.FnDay", spec := "fnDay", unfollowed := true, recurses := true, apart := false, narrowed := true }
def FnDayUptoSaid : Prop := fnDayUptoRow.holds Try.pinned (OpenSpec.upto fnDaySpec)

/-- 'laws.FnOnEdges', WHERE WHAT IT READS IS OF BULK AT MOST 1048576: true; the input reads as it did. -/
def fnOnEdgesUptoRow : OpenClaim := { program := "ytjjglonmaajjoaa", sum := "395ec7c6739d9285cebf03d15f1725569fc230ea85e80ff0db725e728db8984e", func := "loop.example/g00075/laws.FnOnEdges", spec := "fnOnEdges", unfollowed := true, recurses := true, apart := false, narrowed := true }
def FnOnEdgesUptoSaid : Prop := fnOnEdgesUptoRow.holds Try.pinned (OpenSpec.upto fnOnEdgesSpec)

/-- 'laws.FnExactWaited', WHERE WHAT IT READS IS OF BULK AT MOST 1048576: true; the input reads as it did. -/
def fnExactWaitedUptoRow : OpenClaim := { program := "ytjjglonmaajjoaa", sum := "395ec7c6739d9285cebf03d15f1725569fc230ea85e80ff0db725e728db8984e", func := "loop.example/g00075/laws.FnExactWaited", spec := "fnExactWaited", unfollowed := true, recurses := true, apart := false, narrowed := true }
def FnExactWaitedUptoSaid : Prop := fnExactWaitedUptoRow.holds Try.pinned (OpenSpec.upto fnExactWaitedSpec)

/-- 'laws.FnExactPunctual', WHERE WHAT IT READS IS OF BULK AT MOST 1048576: true; the input reads as it did. -/
def fnExactPunctualUptoRow : OpenClaim := { program := "ytjjglonmaajjoaa", sum := "395ec7c6739d9285cebf03d15f1725569fc230ea85e80ff0db725e728db8984e", func := "loop.example/g00075/laws.FnExactPunctual", spec := "fnExactPunctual", unfollowed := true, recurses := true, apart := false, narrowed := true }
def FnExactPunctualUptoSaid : Prop := fnExactPunctualUptoRow.holds Try.pinned (OpenSpec.upto fnExactPunctualSpec)

/-- 'laws.FnExactLateAt', WHERE WHAT IT READS IS OF BULK AT MOST 1048576: true; the input reads as it did. -/
def fnExactLateAtUptoRow : OpenClaim := { program := "ytjjglonmaajjoaa", sum := "395ec7c6739d9285cebf03d15f1725569fc230ea85e80ff0db725e728db8984e", func := "loop.example/g00075/laws.FnExactLateAt", spec := "fnExactLateAt", unfollowed := true, recurses := true, apart := false, narrowed := true }
def FnExactLateAtUptoSaid : Prop := fnExactLateAtUptoRow.holds Try.pinned (OpenSpec.upto fnExactLateAtSpec)

/-- 'laws.FnExactOnEdges', WHERE WHAT IT READS IS OF BULK AT MOST 1048576: true; the input reads as it did. -/
def fnExactOnEdgesUptoRow : OpenClaim := { program := "ytjjglonmaajjoaa", sum := "395ec7c6739d9285cebf03d15f1725569fc230ea85e80ff0db725e728db8984e", func := "loop.example/g00075/laws.FnExactOnEdges", spec := "fnExactOnEdges", unfollowed := true, recurses := true, apart := false, narrowed := true }
def FnExactOnEdgesUptoSaid : Prop := fnExactOnEdgesUptoRow.holds Try.pinned (OpenSpec.upto fnExactOnEdgesSpec)

/-- 'laws.FnExactPlayDay', WHERE WHAT IT READS IS OF BULK AT MOST 1048576: true; the input reads as it did. -/
def fnExactPlayDayUptoRow : OpenClaim := { program := "ytjjglonmaajjoaa", sum := "395ec7c6739d9285cebf03d15f1725569fc230ea85e80ff0db725e728db8984e", func := "loop.example/g00075/laws.FnExactPlayDay", spec := "fnExactPlayDay", unfollowed := true, recurses := true, apart := false, narrowed := true }
def FnExactPlayDayUptoSaid : Prop := fnExactPlayDayUptoRow.holds Try.pinned (OpenSpec.upto fnExactPlayDaySpec)

/-- 'laws.FnExactPlanned', WHERE WHAT IT READS IS OF BULK AT MOST 1048576: true; the input reads as it did. -/
def fnExactPlannedUptoRow : OpenClaim := { program := "ytjjglonmaajjoaa", sum := "395ec7c6739d9285cebf03d15f1725569fc230ea85e80ff0db725e728db8984e", func := "loop.example/g00075/laws.FnExactPlanned", spec := "fnExactPlanned", unfollowed := true, recurses := true, apart := false, narrowed := true }
def FnExactPlannedUptoSaid : Prop := fnExactPlannedUptoRow.holds Try.pinned (OpenSpec.upto fnExactPlannedSpec)

/-- 'laws.FnExactDayOk', WHERE WHAT IT READS IS OF BULK AT MOST 1048576: true; the input reads as it did. -/
def fnExactDayOkUptoRow : OpenClaim := { program := "ytjjglonmaajjoaa", sum := "395ec7c6739d9285cebf03d15f1725569fc230ea85e80ff0db725e728db8984e", func := "loop.example/g00075/laws.FnExactDayOk", spec := "fnExactDayOk", unfollowed := true, recurses := true, apart := false, narrowed := true }
def FnExactDayOkUptoSaid : Prop := fnExactDayOkUptoRow.holds Try.pinned (OpenSpec.upto fnExactDayOkSpec)

/-- 'laws.FnExactApart', WHERE WHAT IT READS IS OF BULK AT MOST 1048576: true; the input reads as it did. -/
def fnExactApartUptoRow : OpenClaim := { program := "ytjjglonmaajjoaa", sum := "395ec7c6739d9285cebf03d15f1725569fc230ea85e80ff0db725e728db8984e", func := "loop.example/g00075/laws.FnExactApart", spec := "fnExactApart", unfollowed := true, recurses := true, apart := false, narrowed := true }
def FnExactApartUptoSaid : Prop := fnExactApartUptoRow.holds Try.pinned (OpenSpec.upto fnExactApartSpec)

end Rows
end Go.Proofs.Ytjjglonmaajjoaa
