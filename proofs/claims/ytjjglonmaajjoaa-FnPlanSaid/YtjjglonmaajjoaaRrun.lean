/- Runs: what the laws' helpers do. No condition beyond each law's own; of the program: the functions' forms. -/
import Derived.Test.YtjjglonmaajjoaaRtrip
namespace Go.Proofs.Ytjjglonmaajjoaa.AX
open Go
set_option maxRecDepth 10000
set_option maxHeartbeats 4000000
set_option linter.unusedSimpArgs false
set_option linter.unusedVariables false
-- Run
def runC (x : Int × Int × Int × Int) : List Value := [.int .i64 x.1, .int .i64 x.2.1, .int .i64 x.2.2.1, .int .i64 x.2.2.2]
theorem runC_len (x : Int × Int × Int × Int) : (runC x).length = 4 := rfl
def runM (x : Int × Int × Int × Int) (k : Nat) : (Int × Int × Int × Int) × Nat := ((((k + 0 : Nat) : Int), ((k + 1 : Nat) : Int), ((k + 2 : Nat) : Int), ((k + 3 : Nat) : Int)), k + 4)
abbrev rRun : Rep (Int × Int × Int × Int) := flatRep runC 4 runC_len runM
end Go.Proofs.Ytjjglonmaajjoaa.AX
