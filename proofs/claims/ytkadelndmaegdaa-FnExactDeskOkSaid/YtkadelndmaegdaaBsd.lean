/- Places in lists, of the program and of the reference. No condition beyond each law's own; of the program: the functions' forms. -/
import Derived.Test.YtkadelndmaegdaaBse
import Derived.Test.YtkadelndmaegdaaAXzf
namespace Go.Proofs.Ytkadelndmaegdaa.AX
open Go
set_option maxRecDepth 10000
set_option maxHeartbeats 4000000
set_option linter.unusedSimpArgs false
set_option linter.unusedVariables false
theorem has_hit {xs : List Int} {i : Nat} {x : Int} (h : i < xs.length) (he : xs.getD i 0 = x) : xs.contains x = true := by
  rw [List.contains_iff_mem, ← he, getD_get _ _ h]
  exact List.getElem_mem h
theorem has_miss {xs : List Int} {i : Nat} {x : Int} (h : i < xs.length) (he : xs.getD i 0 ≠ x) (hc : (xs.take i).contains x = false) : (xs.take (i + 1)).contains x = false := by
  rw [take_snoc xs 0 h, List.contains_append, hc]
  simp
  exact fun e => he e.symm
theorem r_spec_l01Has {v : Value} {xs : List Int} {x : Int} {H : Heap} (h : Ints H v xs) (hl : xs.length ≤ 17592186044416) : Run Try.prog 65 [v, .int .i64 x] H fun r H' => Keep H H' ∧ r = .bool (xs.contains x) := by
  refine Run.intro c65 rfl ?_
  simp (maxSteps := 4000000) (disch := omega) only [Zq, evO, vbox, wr, Zeq, if_true, if_false, Nat.reduceEqDiff, Nat.reduceAdd, Nat.reduceLeDiff, Nat.reduceSub, and_self, and_true, true_and, reduceIte, reduceCtorEq, eq_self, implies_true, forall_const, false_implies, imp_self, decide_true, decide_false, x65]
  refine G_forF [0, 1] (xs.length) (fun i T H1 => T 5 = .int .i64 (i : Int) ∧ Keep H H1 ∧ (xs.take i).contains x = false) 0 (Nat.zero_le _) ?_ ?_
  · simp (maxSteps := 4000000) (disch := omega) only [Zq, evO, vbox, wr, Zeq, if_true, if_false, Nat.reduceEqDiff, Nat.reduceAdd, Nat.reduceLeDiff, Nat.reduceSub, and_self, and_true, true_and, reduceIte, reduceCtorEq, eq_self, implies_true, forall_const, false_implies, imp_self, decide_true, decide_false]
    exact ⟨Keep.refl _, by simp⟩
  · rintro i T H1 hi hT ⟨t5, k1, hc⟩
    simp only [fix_nil, fix_cons, Zq, evO, vbox, wr, Zeq, if_true, if_false, Nat.reduceEqDiff, Nat.reduceAdd, Nat.reduceLeDiff, Nat.reduceSub, and_self, and_true, true_and, reduceIte, reduceCtorEq, eq_self, implies_true, forall_const, false_implies, imp_self, decide_true, decide_false] at hT
    obtain ⟨t0, t1⟩ := hT
    have h1 := h.keep k1
    by_cases hin : i < xs.length
    · by_cases he : xs.getD i 0 = x
      · simp (maxSteps := 4000000) (disch := omega) only [Zq, evO, vbox, wr, Zeq, if_true, if_false, Nat.reduceEqDiff, Nat.reduceAdd, Nat.reduceLeDiff, Nat.reduceSub, and_self, and_true, true_and, reduceIte, reduceCtorEq, eq_self, implies_true, forall_const, false_implies, imp_self, decide_true, decide_false, fix_nil, fix_cons, t0, t1, t5, h1.len_, h1.idx hin, h1.ld hin]
        exact ⟨k1, by rw [has_hit hin he]⟩
      · simp (maxSteps := 4000000) (disch := omega) only [Zq, evO, vbox, wr, Zeq, if_true, if_false, Nat.reduceEqDiff, Nat.reduceAdd, Nat.reduceLeDiff, Nat.reduceSub, and_self, and_true, true_and, reduceIte, reduceCtorEq, eq_self, implies_true, forall_const, false_implies, imp_self, decide_true, decide_false, fix_nil, fix_cons, t0, t1, t5, h1.len_, h1.idx hin, h1.ld hin]
        exact ⟨hin, k1, has_miss hin he hc⟩
    · simp (maxSteps := 4000000) (disch := omega) only [Zq, evO, vbox, wr, Zeq, if_true, if_false, Nat.reduceEqDiff, Nat.reduceAdd, Nat.reduceLeDiff, Nat.reduceSub, and_self, and_true, true_and, reduceIte, reduceCtorEq, eq_self, implies_true, forall_const, false_implies, imp_self, decide_true, decide_false, fix_nil, fix_cons, t0, t1, t5, h1.len_]
      obtain rfl : i = xs.length := by omega
      rw [List.take_length] at hc
      exact ⟨k1, by rw [hc]⟩
theorem r_impl_has {v : Value} {xs : List Int} {x : Int} {H : Heap} (h : Ints H v xs) (hl : xs.length ≤ 17592186044416) : Run Try.prog 77 [v, .int .i64 x] H fun r H' => Keep H H' ∧ r = .bool (xs.contains x) := by
  refine Run.intro c77 rfl ?_
  simp (maxSteps := 4000000) (disch := omega) only [Zq, evO, vbox, wr, Zeq, if_true, if_false, Nat.reduceEqDiff, Nat.reduceAdd, Nat.reduceLeDiff, Nat.reduceSub, and_self, and_true, true_and, reduceIte, reduceCtorEq, eq_self, implies_true, forall_const, false_implies, imp_self, decide_true, decide_false, x77, h.len_]
  refine G_forF [1, 7, 8] (xs.length) (fun i T H1 => T 9 = .int .i64 (i : Int) ∧ Keep H H1 ∧ (xs.take i).contains x = false) 0 (Nat.zero_le _) ?_ ?_
  · simp (maxSteps := 4000000) (disch := omega) only [Zq, evO, vbox, wr, Zeq, if_true, if_false, Nat.reduceEqDiff, Nat.reduceAdd, Nat.reduceLeDiff, Nat.reduceSub, and_self, and_true, true_and, reduceIte, reduceCtorEq, eq_self, implies_true, forall_const, false_implies, imp_self, decide_true, decide_false]
    exact ⟨Keep.refl _, by simp⟩
  · rintro i T H1 hi hT ⟨t9, k1, hc⟩
    simp only [fix_nil, fix_cons, Zq, evO, vbox, wr, Zeq, if_true, if_false, Nat.reduceEqDiff, Nat.reduceAdd, Nat.reduceLeDiff, Nat.reduceSub, and_self, and_true, true_and, reduceIte, reduceCtorEq, eq_self, implies_true, forall_const, false_implies, imp_self, decide_true, decide_false] at hT
    obtain ⟨t1, t7, t8⟩ := hT
    have h1 := h.keep k1
    by_cases hin : i < xs.length
    · by_cases he : xs.getD i 0 = x
      · simp (maxSteps := 4000000) (disch := omega) only [Zq, evO, vbox, wr, Zeq, if_true, if_false, Nat.reduceEqDiff, Nat.reduceAdd, Nat.reduceLeDiff, Nat.reduceSub, and_self, and_true, true_and, reduceIte, reduceCtorEq, eq_self, implies_true, forall_const, false_implies, imp_self, decide_true, decide_false, fix_nil, fix_cons, t1, t7, t8, t9, h1.idx hin, h1.ld hin]
        exact ⟨k1, by rw [has_hit hin he]⟩
      · simp (maxSteps := 4000000) (disch := omega) only [Zq, evO, vbox, wr, Zeq, if_true, if_false, Nat.reduceEqDiff, Nat.reduceAdd, Nat.reduceLeDiff, Nat.reduceSub, and_self, and_true, true_and, reduceIte, reduceCtorEq, eq_self, implies_true, forall_const, false_implies, imp_self, decide_true, decide_false, fix_nil, fix_cons, t1, t7, t8, t9, h1.idx hin, h1.ld hin]
        exact ⟨hin, k1, has_miss hin he hc⟩
    · simp (maxSteps := 4000000) (disch := omega) only [Zq, evO, vbox, wr, Zeq, if_true, if_false, Nat.reduceEqDiff, Nat.reduceAdd, Nat.reduceLeDiff, Nat.reduceSub, and_self, and_true, true_and, reduceIte, reduceCtorEq, eq_self, implies_true, forall_const, false_implies, imp_self, decide_true, decide_false, fix_nil, fix_cons, t1, t7, t8, t9]
      obtain rfl : i = xs.length := by omega
      rw [List.take_length] at hc
      exact ⟨k1, by rw [hc]⟩
end Go.Proofs.Ytkadelndmaegdaa.AX
