/- Planned: the reference's walk. No condition beyond each law's own; of the program: the functions' forms. -/
import Derived.Test.YtjjglonmaajjoaaPlp2
import Derived.Test.YtjjglonmaajjoaaXP
namespace Go.Proofs.Ytjjglonmaajjoaa.AX
open Go
set_option maxRecDepth 10000
set_option maxHeartbeats 4000000
set_option linter.unusedSimpArgs false
set_option linter.unusedVariables false
theorem NewF.blksP {α : Type} {f : α → List Value} {n : Nat} {H0 H1 : Heap} {v : Value} {xs : List α} (h : NewF f n H0 H1 v xs) : H0.nxt ≤ blk v ∧ blk v < H1.nxt := by
  obtain ⟨p, h1, h2, rfl, h4⟩ := h
  exact ⟨h1, h2⟩
section
variable {H : Heap} {v w : Value} {n : Int} {es : List Ed} {l : List Tp}
end
end Go.Proofs.Ytjjglonmaajjoaa.AX
