/- Bounds, places in lists and copies, of the program and of the reference. No condition beyond each law's own; of the program: the functions' forms. -/
import Derived.Test.YtiajbefljkikiaaXF
import Derived.Test.YtiajbefljkikiaaAXze
namespace Go.Proofs.Ytiajbefljkikiaa.AX
open Go
set_option maxRecDepth 10000
set_option maxHeartbeats 4000000
set_option linter.unusedSimpArgs false
set_option linter.unusedVariables false
def inR (a b x : Int) : Bool := decide (a ≤ x) && decide (x ≤ b)
theorem inR_iff {a b x : Int} : inR a b x = true ↔ a ≤ x ∧ x ≤ b := by simp [inR]
theorem r_spec_l01In (x a b : Int) (H : Heap) : Run Try.prog 75 [.int .i64 x, .int .i64 a, .int .i64 b] H fun r H' => Keep H H' ∧ r = .bool (inR a b x) := by
  refine Run.intro c75 rfl ?_
  by_cases h1 : a ≤ x
  · simp (maxSteps := 4000000) (disch := omega) only [Zq, evO, vbox, wr, Zeq, if_true, if_false, Nat.reduceEqDiff, Nat.reduceAdd, Nat.reduceLeDiff, Nat.reduceSub, and_self, and_true, true_and, reduceIte, reduceCtorEq, eq_self, implies_true, forall_const, false_implies, imp_self, decide_true, decide_false, x75]
    exact ⟨Keep.refl _, by simp [inR, h1]⟩
  · simp (maxSteps := 4000000) (disch := omega) only [Zq, evO, vbox, wr, Zeq, if_true, if_false, Nat.reduceEqDiff, Nat.reduceAdd, Nat.reduceLeDiff, Nat.reduceSub, and_self, and_true, true_and, reduceIte, reduceCtorEq, eq_self, implies_true, forall_const, false_implies, imp_self, decide_true, decide_false, x75]
    exact ⟨Keep.refl _, by simp [inR, h1]⟩
theorem r_impl_between (x a b : Int) (H : Heap) : Run Try.prog 64 [.int .i64 x, .int .i64 a, .int .i64 b] H fun r H' => Keep H H' ∧ r = .bool (inR a b x) := by
  refine Run.intro c64 rfl ?_
  by_cases h1 : a ≤ x
  · simp (maxSteps := 4000000) (disch := omega) only [Zq, evO, vbox, wr, Zeq, if_true, if_false, Nat.reduceEqDiff, Nat.reduceAdd, Nat.reduceLeDiff, Nat.reduceSub, and_self, and_true, true_and, reduceIte, reduceCtorEq, eq_self, implies_true, forall_const, false_implies, imp_self, decide_true, decide_false, x64]
    exact ⟨Keep.refl _, by simp [inR, h1]⟩
  · simp (maxSteps := 4000000) (disch := omega) only [Zq, evO, vbox, wr, Zeq, if_true, if_false, Nat.reduceEqDiff, Nat.reduceAdd, Nat.reduceLeDiff, Nat.reduceSub, and_self, and_true, true_and, reduceIte, reduceCtorEq, eq_self, implies_true, forall_const, false_implies, imp_self, decide_true, decide_false, x64]
    exact ⟨Keep.refl _, by simp [inR, h1]⟩
theorem has_hit {xs : List Int} {i : Nat} {x : Int} (h : i < xs.length) (he : xs.getD i 0 = x) : xs.contains x = true := by
  rw [List.contains_iff_mem, ← he, getD_get _ _ h]
  exact List.getElem_mem h
theorem has_miss {xs : List Int} {i : Nat} {x : Int} (h : i < xs.length) (he : xs.getD i 0 ≠ x) (hc : (xs.take i).contains x = false) : (xs.take (i + 1)).contains x = false := by
  rw [take_snoc xs 0 h, List.contains_append, hc]
  simp
  exact fun e => he e.symm
theorem r_spec_l01Has {v : Value} {xs : List Int} {x : Int} {H : Heap} (h : Ints H v xs) (hl : xs.length ≤ 17592186044416) : Run Try.prog 105 [v, .int .i64 x] H fun r H' => Keep H H' ∧ r = .bool (xs.contains x) := by
  refine Run.intro c105 rfl ?_
  simp (maxSteps := 4000000) (disch := omega) only [Zq, evO, vbox, wr, Zeq, if_true, if_false, Nat.reduceEqDiff, Nat.reduceAdd, Nat.reduceLeDiff, Nat.reduceSub, and_self, and_true, true_and, reduceIte, reduceCtorEq, eq_self, implies_true, forall_const, false_implies, imp_self, decide_true, decide_false, x105]
  refine G_forF [0, 1] (xs.length) (fun i T H1 => T 5 = .int .i64 (i : Int) ∧ Keep H H1 ∧ (xs.take i).contains x = false) 0 (Nat.zero_le _) ?_ ?_
  · simp (maxSteps := 4000000) (disch := omega) only [Zq, evO, vbox, wr, Zeq, if_true, if_false, Nat.reduceEqDiff, Nat.reduceAdd, Nat.reduceLeDiff, Nat.reduceSub, and_self, and_true, true_and, reduceIte, reduceCtorEq, eq_self, implies_true, forall_const, false_implies, imp_self, decide_true, decide_false]
    exact ⟨Keep.refl _, by simp⟩
  · rintro i T H1 hi hT ⟨t5, k1, hc⟩
    simp only [fix_nil, fix_cons, Zq, evO, vbox, wr, Zeq, if_true, if_false, Nat.reduceEqDiff, Nat.reduceAdd, Nat.reduceLeDiff, Nat.reduceSub, and_self, and_true, true_and, reduceIte, reduceCtorEq, eq_self, implies_true, forall_const, false_implies, imp_self, decide_true, decide_false] at hT
    obtain ⟨t0, t1⟩ := hT
    have h1 := h.keep k1
    by_cases hin : i < xs.length
    · by_cases he : xs.getD i 0 = x
      · simp (maxSteps := 4000000) (disch := omega) only [Zq, evO, vbox, wr, Zeq, if_true, if_false, Nat.reduceEqDiff, Nat.reduceAdd, Nat.reduceLeDiff, Nat.reduceSub, and_self, and_true, true_and, reduceIte, reduceCtorEq, eq_self, implies_true, forall_const, false_implies, imp_self, decide_true, decide_false, fix_nil, fix_cons, t0, t1, t5, h1.len_, h1.idx hin, h1.ld hin]
        exact ⟨k1, by rw [has_hit hin he]⟩
      · simp (maxSteps := 4000000) (disch := omega) only [Zq, evO, vbox, wr, Zeq, if_true, if_false, Nat.reduceEqDiff, Nat.reduceAdd, Nat.reduceLeDiff, Nat.reduceSub, and_self, and_true, true_and, reduceIte, reduceCtorEq, eq_self, implies_true, forall_const, false_implies, imp_self, decide_true, decide_false, fix_nil, fix_cons, t0, t1, t5, h1.len_, h1.idx hin, h1.ld hin]
        exact ⟨hin, k1, has_miss hin he hc⟩
    · simp (maxSteps := 4000000) (disch := omega) only [Zq, evO, vbox, wr, Zeq, if_true, if_false, Nat.reduceEqDiff, Nat.reduceAdd, Nat.reduceLeDiff, Nat.reduceSub, and_self, and_true, true_and, reduceIte, reduceCtorEq, eq_self, implies_true, forall_const, false_implies, imp_self, decide_true, decide_false, fix_nil, fix_cons, t0, t1, t5, h1.len_]
      obtain rfl : i = xs.length := by omega
      rw [List.take_length] at hc
      exact ⟨k1, by rw [hc]⟩
theorem r_impl_has {v : Value} {xs : List Int} {x : Int} {H : Heap} (h : Ints H v xs) (hl : xs.length ≤ 17592186044416) : Run Try.prog 86 [v, .int .i64 x] H fun r H' => Keep H H' ∧ r = .bool (xs.contains x) := by
  refine Run.intro c86 rfl ?_
  simp (maxSteps := 4000000) (disch := omega) only [Zq, evO, vbox, wr, Zeq, if_true, if_false, Nat.reduceEqDiff, Nat.reduceAdd, Nat.reduceLeDiff, Nat.reduceSub, and_self, and_true, true_and, reduceIte, reduceCtorEq, eq_self, implies_true, forall_const, false_implies, imp_self, decide_true, decide_false, x86, h.len_]
  refine G_forF [1, 7, 8] (xs.length) (fun i T H1 => T 9 = .int .i64 (i : Int) ∧ Keep H H1 ∧ (xs.take i).contains x = false) 0 (Nat.zero_le _) ?_ ?_
  · simp (maxSteps := 4000000) (disch := omega) only [Zq, evO, vbox, wr, Zeq, if_true, if_false, Nat.reduceEqDiff, Nat.reduceAdd, Nat.reduceLeDiff, Nat.reduceSub, and_self, and_true, true_and, reduceIte, reduceCtorEq, eq_self, implies_true, forall_const, false_implies, imp_self, decide_true, decide_false]
    exact ⟨Keep.refl _, by simp⟩
  · rintro i T H1 hi hT ⟨t9, k1, hc⟩
    simp only [fix_nil, fix_cons, Zq, evO, vbox, wr, Zeq, if_true, if_false, Nat.reduceEqDiff, Nat.reduceAdd, Nat.reduceLeDiff, Nat.reduceSub, and_self, and_true, true_and, reduceIte, reduceCtorEq, eq_self, implies_true, forall_const, false_implies, imp_self, decide_true, decide_false] at hT
    obtain ⟨t1, t7, t8⟩ := hT
    have h1 := h.keep k1
    by_cases hin : i < xs.length
    · by_cases he : xs.getD i 0 = x
      · simp (maxSteps := 4000000) (disch := omega) only [Zq, evO, vbox, wr, Zeq, if_true, if_false, Nat.reduceEqDiff, Nat.reduceAdd, Nat.reduceLeDiff, Nat.reduceSub, and_self, and_true, true_and, reduceIte, reduceCtorEq, eq_self, implies_true, forall_const, false_implies, imp_self, decide_true, decide_false, fix_nil, fix_cons, t1, t7, t8, t9, h1.idx hin, h1.ld hin]
        exact ⟨k1, by rw [has_hit hin he]⟩
      · simp (maxSteps := 4000000) (disch := omega) only [Zq, evO, vbox, wr, Zeq, if_true, if_false, Nat.reduceEqDiff, Nat.reduceAdd, Nat.reduceLeDiff, Nat.reduceSub, and_self, and_true, true_and, reduceIte, reduceCtorEq, eq_self, implies_true, forall_const, false_implies, imp_self, decide_true, decide_false, fix_nil, fix_cons, t1, t7, t8, t9, h1.idx hin, h1.ld hin]
        exact ⟨hin, k1, has_miss hin he hc⟩
    · simp (maxSteps := 4000000) (disch := omega) only [Zq, evO, vbox, wr, Zeq, if_true, if_false, Nat.reduceEqDiff, Nat.reduceAdd, Nat.reduceLeDiff, Nat.reduceSub, and_self, and_true, true_and, reduceIte, reduceCtorEq, eq_self, implies_true, forall_const, false_implies, imp_self, decide_true, decide_false, fix_nil, fix_cons, t1, t7, t8, t9]
      obtain rfl : i = xs.length := by omega
      rw [List.take_length] at hc
      exact ⟨k1, by rw [hc]⟩
theorem r_spec_l01Copy {v : Value} {xs : List Int} {H : Heap} (h : Ints H v xs) (hl : xs.length ≤ 1048576) : Run Try.prog 76 [v] H fun r H' => Keep H H' ∧ NewI H H' r xs := by
  refine Run.intro c76 rfl ?_
  simp (maxSteps := 4000000) (disch := omega) only [Zq, evO, vbox, wr, Zeq, if_true, if_false, Nat.reduceEqDiff, Nat.reduceAdd, Nat.reduceLeDiff, Nat.reduceSub, and_self, and_true, true_and, reduceIte, reduceCtorEq, eq_self, implies_true, forall_const, false_implies, imp_self, decide_true, decide_false, x76]
  refine G_forF [0] (xs.length) (fun i T H1 => T 4 = .int .i64 (i : Int) ∧ Keep H H1 ∧ NewI H H1 (T 3) (xs.take i)) 0 (Nat.zero_le _) ?_ ?_
  · simp (maxSteps := 4000000) (disch := omega) only [Zq, evO, vbox, wr, Zeq, if_true, if_false, Nat.reduceEqDiff, Nat.reduceAdd, Nat.reduceLeDiff, Nat.reduceSub, and_self, and_true, true_and, reduceIte, reduceCtorEq, eq_self, implies_true, forall_const, false_implies, imp_self, decide_true, decide_false]
    exact ⟨Keep.push _ _, NewF.new (Keep.refl _)⟩
  · rintro i T H1 hi hT ⟨t4, k1, o1⟩
    simp only [fix_nil, fix_cons, Zq, evO, vbox, wr, Zeq, if_true, if_false, Nat.reduceEqDiff, Nat.reduceAdd, Nat.reduceLeDiff, Nat.reduceSub, and_self, and_true, true_and, reduceIte, reduceCtorEq, eq_self, implies_true, forall_const, false_implies, imp_self, decide_true, decide_false] at hT
    have t0 := hT
    have h1 := h.keep k1
    by_cases hin : i < xs.length
    · obtain ⟨u, H2, e2, o2, k2, n2⟩ := NewF.one (bytes := 8) (y := xs.getD i 0) (fZ_len .i64) (by omega) o1 (by rw [List.length_take]; omega)
      simp only [fZ] at e2
      rw [← take_snoc xs 0 hin] at o2
      simp (maxSteps := 4000000) (disch := omega) only [Zq, evO, vbox, wr, Zeq, if_true, if_false, Nat.reduceEqDiff, Nat.reduceAdd, Nat.reduceLeDiff, Nat.reduceSub, and_self, and_true, true_and, reduceIte, reduceCtorEq, eq_self, implies_true, forall_const, false_implies, imp_self, decide_true, decide_false, fix_nil, fix_cons, t0, t4, h1.len_, h1.idx hin, h1.ld hin, Zff, e2]
      exact ⟨hin, k2 H (Nat.le_refl _) k1, o2⟩
    · simp (maxSteps := 4000000) (disch := omega) only [Zq, evO, vbox, wr, Zeq, if_true, if_false, Nat.reduceEqDiff, Nat.reduceAdd, Nat.reduceLeDiff, Nat.reduceSub, and_self, and_true, true_and, reduceIte, reduceCtorEq, eq_self, implies_true, forall_const, false_implies, imp_self, decide_true, decide_false, fix_nil, fix_cons, t0, t4, h1.len_]
      obtain rfl : i = xs.length := by omega
      rw [List.take_length] at o1
      obtain ⟨p, m, e⟩ := o1.shape
      rw [e] at o1
      simp (maxSteps := 4000000) (disch := omega) only [Zq, evO, vbox, wr, Zeq, if_true, if_false, Nat.reduceEqDiff, Nat.reduceAdd, Nat.reduceLeDiff, Nat.reduceSub, and_self, and_true, true_and, reduceIte, reduceCtorEq, eq_self, implies_true, forall_const, false_implies, imp_self, decide_true, decide_false, fix_nil, fix_cons, t0, t4, e]
      exact ⟨k1, o1⟩
end Go.Proofs.Ytiajbefljkikiaa.AX
