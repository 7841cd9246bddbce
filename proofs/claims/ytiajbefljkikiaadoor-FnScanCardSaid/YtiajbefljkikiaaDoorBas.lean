/- Bounds, places in lists and copies, of the program and of the reference. No condition beyond each law's own; of the program: the functions' forms. -/
import Derived.Test.YtiajbefljkikiaaDoorXF
import Derived.Test.YtiajbefljkikiaaDoorAXze
namespace Go.Proofs.YtiajbefljkikiaaDoor.AX
open Go
set_option maxRecDepth 10000
set_option maxHeartbeats 4000000
set_option linter.unusedSimpArgs false
set_option linter.unusedVariables false
def inR (a b x : Int) : Bool := decide (a ≤ x) && decide (x ≤ b)
theorem inR_iff {a b x : Int} : inR a b x = true ↔ a ≤ x ∧ x ≤ b := by simp [inR]
theorem r_spec_l01In (x a b : Int) (H : Heap) : Run Tryd.prog 48 [.int .i64 x, .int .i64 a, .int .i64 b] H fun r H' => Keep H H' ∧ r = .bool (inR a b x) := by
  refine Run.intro c48 rfl ?_
  by_cases h1 : a ≤ x
  · simp (maxSteps := 4000000) (disch := omega) only [Zq, evO, vbox, wr, Zeq, if_true, if_false, Nat.reduceEqDiff, Nat.reduceAdd, Nat.reduceLeDiff, Nat.reduceSub, and_self, and_true, true_and, reduceIte, reduceCtorEq, eq_self, implies_true, forall_const, false_implies, imp_self, decide_true, decide_false, x48]
    exact ⟨Keep.refl _, by simp [inR, h1]⟩
  · simp (maxSteps := 4000000) (disch := omega) only [Zq, evO, vbox, wr, Zeq, if_true, if_false, Nat.reduceEqDiff, Nat.reduceAdd, Nat.reduceLeDiff, Nat.reduceSub, and_self, and_true, true_and, reduceIte, reduceCtorEq, eq_self, implies_true, forall_const, false_implies, imp_self, decide_true, decide_false, x48]
    exact ⟨Keep.refl _, by simp [inR, h1]⟩
theorem r_impl_between (x a b : Int) (H : Heap) : Run Tryd.prog 31 [.int .i64 x, .int .i64 a, .int .i64 b] H fun r H' => Keep H H' ∧ r = .bool (inR a b x) := by
  refine Run.intro c31 rfl ?_
  by_cases h1 : a ≤ x
  · simp (maxSteps := 4000000) (disch := omega) only [Zq, evO, vbox, wr, Zeq, if_true, if_false, Nat.reduceEqDiff, Nat.reduceAdd, Nat.reduceLeDiff, Nat.reduceSub, and_self, and_true, true_and, reduceIte, reduceCtorEq, eq_self, implies_true, forall_const, false_implies, imp_self, decide_true, decide_false, x31]
    exact ⟨Keep.refl _, by simp [inR, h1]⟩
  · simp (maxSteps := 4000000) (disch := omega) only [Zq, evO, vbox, wr, Zeq, if_true, if_false, Nat.reduceEqDiff, Nat.reduceAdd, Nat.reduceLeDiff, Nat.reduceSub, and_self, and_true, true_and, reduceIte, reduceCtorEq, eq_self, implies_true, forall_const, false_implies, imp_self, decide_true, decide_false, x31]
    exact ⟨Keep.refl _, by simp [inR, h1]⟩
theorem has_hit {xs : List Int} {i : Nat} {x : Int} (h : i < xs.length) (he : xs.getD i 0 = x) : xs.contains x = true := by
  rw [List.contains_iff_mem, ← he, getD_get _ _ h]
  exact List.getElem_mem h
theorem has_miss {xs : List Int} {i : Nat} {x : Int} (h : i < xs.length) (he : xs.getD i 0 ≠ x) (hc : (xs.take i).contains x = false) : (xs.take (i + 1)).contains x = false := by
  rw [take_snoc xs 0 h, List.contains_append, hc]
  simp
  exact fun e => he e.symm
end Go.Proofs.YtiajbefljkikiaaDoor.AX
