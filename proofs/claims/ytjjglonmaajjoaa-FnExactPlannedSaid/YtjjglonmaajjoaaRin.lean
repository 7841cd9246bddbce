/- Slices of numbers: what the laws' helpers do. No condition beyond each law's own; of the program: the functions' forms. -/
import Derived.Test.YtjjglonmaajjoaaRtrip
namespace Go.Proofs.Ytjjglonmaajjoaa.AX
open Go
set_option maxRecDepth 10000
set_option maxHeartbeats 4000000
set_option linter.unusedSimpArgs false
set_option linter.unusedVariables false
theorem toIntS_is : IsTo Try.prog (rSlc rInt) 35 := toPlain_is c35 (by omega)
theorem eqIntS_is : IsEq Try.prog (rSlc rInt) 38 := eqPlain_is c38 (fun z => by rw [Zdv]; simp)
end Go.Proofs.Ytjjglonmaajjoaa.AX
