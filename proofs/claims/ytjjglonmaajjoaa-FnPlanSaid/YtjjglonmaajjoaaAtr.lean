/- The laws' own readers of the code that they draw from. No condition beyond each law's own; of the program: the functions' forms. -/
import Derived.Test.YtjjglonmaajjoaaXH
import Derived.Test.YtjjglonmaajjoaaAXzg
namespace Go.Proofs.Ytjjglonmaajjoaa.AX
open Go
set_option maxRecDepth 10000
set_option maxHeartbeats 4000000
set_option linter.unusedSimpArgs false
set_option linter.unusedVariables false
abbrev Bts' := IntsK .u8
theorem r_laws_big {H : Heap} {v : Value} {xs : List Int} (h : Bts' H v xs) : Run Try.prog 14 [v] H fun r H' => Keep H H' ∧ r = .bool (decide ((1048576 : Int) < xs.length)) := by
  refine Run.intro c14 rfl ?_
  simp (maxSteps := 4000000) (disch := omega) only [Zq, evO, vbox, wr, Zeq, if_true, if_false, Nat.reduceEqDiff, Nat.reduceAdd, Nat.reduceLeDiff, Nat.reduceSub, and_self, and_true, true_and, reduceIte, reduceCtorEq, eq_self, implies_true, forall_const, false_implies, imp_self, decide_true, decide_false, x14, h.len_]
  exact Keep.refl _
theorem tmod_range {x k : Int} (hx : 0 ≤ x) (hk : 0 < k) : 0 ≤ x.tmod k ∧ x.tmod k < k := by
  rw [Int.tmod_eq_emod_of_nonneg hx]
  exact ⟨Int.emod_nonneg _ (by omega), Int.emod_lt_of_pos _ hk⟩
end Go.Proofs.Ytjjglonmaajjoaa.AX
