/- Nets: what the laws' helpers do. No condition beyond each law's own; of the program: the functions' forms. -/
import Derived.Test.YtjjglonmaajjoaaXF
import Derived.Test.YtjjglonmaajjoaaAXzg
namespace Go.Proofs.Ytjjglonmaajjoaa.AX
open Go
set_option maxRecDepth 10000
set_option maxHeartbeats 4000000
set_option linter.unusedSimpArgs false
set_option linter.unusedVariables false
-- Edge
def edgeC (x : Int × Int × Int × Int) : List Value := [.int .i64 x.1, .int .i64 x.2.1, .int .i64 x.2.2.1, .int .i64 x.2.2.2]
theorem edgeC_len (x : Int × Int × Int × Int) : (edgeC x).length = 4 := rfl
def edgeM (x : Int × Int × Int × Int) (k : Nat) : (Int × Int × Int × Int) × Nat := ((((k + 0 : Nat) : Int), ((k + 1 : Nat) : Int), ((k + 2 : Nat) : Int), ((k + 3 : Nat) : Int)), k + 4)
abbrev rEdge : Rep (Int × Int × Int × Int) := flatRep edgeC 4 edgeC_len edgeM
end Go.Proofs.Ytjjglonmaajjoaa.AX
