/- The stable sort's parts: the comparison, ranges swapped, blocks rotated. No condition beyond each law's own; of the program: the functions' forms. -/
import Derived.Test.YtjjglonmaajjoaaXP
import Derived.Test.YtjjglonmaajjoaaSra
namespace Go.Proofs.Ytjjglonmaajjoaa.AX
open Go
set_option maxRecDepth 10000
set_option maxHeartbeats 4000000
set_option linter.unusedSimpArgs false
set_option linter.unusedVariables false
def cmpZ (x y : Int) : Int := if x < y then -1 else if y < x then 1 else 0
theorem cmpZ_neg {x y : Int} : cmpZ x y < 0 ↔ x < y := by unfold cmpZ; (repeat' split) <;> omega
def lsR (x y : Rnn) : Bool := decide (x.2.2.1 < y.2.2.1)
abbrev cmpV : Value := .func (.func 58) #[] #[]
theorem r_isNaN (x : Int) (H : Heap) : Run Try.prog 88 [.int .i64 x] H fun r H' => Keep H H' ∧ r = .bool false := by
  refine Run.intro c88 rfl ?_
  simp (maxSteps := 4000000) (disch := omega) only [Zq, evO, vbox, wr, Zeq, if_true, if_false, Nat.reduceEqDiff, Nat.reduceAdd, Nat.reduceLeDiff, Nat.reduceSub, and_self, and_true, true_and, reduceIte, reduceCtorEq, eq_self, implies_true, forall_const, false_implies, imp_self, decide_true, decide_false, x88, Zfl (rfl : x = x)]
  exact Keep.refl _
theorem r_cmpCompare (x y : Int) (H : Heap) : Run Try.prog 59 [.int .i64 x, .int .i64 y] H fun r H' => Keep H H' ∧ r = .int .i64 (cmpZ x y) := by
  refine Run.intro c59 rfl ?_
  simp (maxSteps := 4000000) (disch := omega) only [Zq, evO, vbox, wr, Zeq, if_true, if_false, Nat.reduceEqDiff, Nat.reduceAdd, Nat.reduceLeDiff, Nat.reduceSub, and_self, and_true, true_and, reduceIte, reduceCtorEq, eq_self, implies_true, forall_const, false_implies, imp_self, decide_true, decide_false, x59]
  refine GO_call ((r_isNaN x _).mono ?_)
  rintro _ H1 ⟨k1, rfl⟩
  simp (maxSteps := 4000000) (disch := omega) only [Zq, evO, vbox, wr, Zeq, if_true, if_false, Nat.reduceEqDiff, Nat.reduceAdd, Nat.reduceLeDiff, Nat.reduceSub, and_self, and_true, true_and, reduceIte, reduceCtorEq, eq_self, implies_true, forall_const, false_implies, imp_self, decide_true, decide_false, fix_nil, fix_cons]
  refine GO_call ((r_isNaN y _).mono ?_)
  rintro _ H2 ⟨k2, rfl⟩
  by_cases h1 : x < y
  · simp (maxSteps := 4000000) (disch := omega) only [Zq, evO, vbox, wr, Zeq, if_true, if_false, Nat.reduceEqDiff, Nat.reduceAdd, Nat.reduceLeDiff, Nat.reduceSub, and_self, and_true, true_and, reduceIte, reduceCtorEq, eq_self, implies_true, forall_const, false_implies, imp_self, decide_true, decide_false, fix_nil, fix_cons, Zfh h1]
    exact ⟨k1.trans k2, by rw [cmpZ, if_pos h1]⟩
  by_cases h2 : y < x
  · simp (maxSteps := 4000000) (disch := omega) only [Zq, evO, vbox, wr, Zeq, if_true, if_false, Nat.reduceEqDiff, Nat.reduceAdd, Nat.reduceLeDiff, Nat.reduceSub, and_self, and_true, true_and, reduceIte, reduceCtorEq, eq_self, implies_true, forall_const, false_implies, imp_self, decide_true, decide_false, fix_nil, fix_cons, Zfi h1, Zfh h2]
    exact ⟨k1.trans k2, by rw [cmpZ, if_neg h1, if_pos h2]⟩
  · simp (maxSteps := 4000000) (disch := omega) only [Zq, evO, vbox, wr, Zeq, if_true, if_false, Nat.reduceEqDiff, Nat.reduceAdd, Nat.reduceLeDiff, Nat.reduceSub, and_self, and_true, true_and, reduceIte, reduceCtorEq, eq_self, implies_true, forall_const, false_implies, imp_self, decide_true, decide_false, fix_nil, fix_cons, Zfi h1, Zfi h2]
    exact ⟨k1.trans k2, by rw [cmpZ, if_neg h1, if_neg h2]⟩
theorem r_cmpRun (x y : Rnn) (H : Heap) : Run Try.prog 58 [.agg #[.int .i64 x.1, .int .i64 x.2.1, .int .i64 x.2.2.1, .int .i64 x.2.2.2], .agg #[.int .i64 y.1, .int .i64 y.2.1, .int .i64 y.2.2.1, .int .i64 y.2.2.2]] H fun r H' => Keep H H' ∧ r = .int .i64 (cmpZ x.2.2.1 y.2.2.1) := by
  refine Run.intro c58 rfl ?_
  simp (maxSteps := 4000000) (disch := omega) only [Zq, evO, vbox, wr, Zeq, if_true, if_false, Nat.reduceEqDiff, Nat.reduceAdd, Nat.reduceLeDiff, Nat.reduceSub, and_self, and_true, true_and, reduceIte, reduceCtorEq, eq_self, implies_true, forall_const, false_implies, imp_self, decide_true, decide_false, x58]
  generalize hG0 : H.push [.int .i64 x.1, .int .i64 x.2.1, .int .i64 x.2.2.1, .int .i64 x.2.2.2] = H0
  have k0 : Keep H H0 := by rw [← hG0]; exact Keep.push _ _
  have g0 : H0.get H.nxt = some (.own [.int .i64 x.1, .int .i64 x.2.1, .int .i64 x.2.2.1, .int .i64 x.2.2.2]) := by rw [← hG0, push_get', if_pos rfl]
  have n0 : H0.nxt = H.nxt + 1 := by rw [← hG0, Zbg]
  generalize hG1 : H0.push [.int .i64 y.1, .int .i64 y.2.1, .int .i64 y.2.2.1, .int .i64 y.2.2.2] = H1
  have k1 : Keep H0 H1 := by rw [← hG1]; exact Keep.push _ _
  have g1 : H1.get H0.nxt = some (.own [.int .i64 y.1, .int .i64 y.2.1, .int .i64 y.2.2.1, .int .i64 y.2.2.2]) := by rw [← hG1, push_get', if_pos rfl]
  have n1 : H1.nxt = H0.nxt + 1 := by rw [← hG1, Zbg]
  rw [n0] at g1
  have g1a := (k1.get H.nxt (by omega)).trans g0
  refine GO_call ((r_cmpCompare _ _ _).mono ?_)
  rintro _ H2 ⟨k2, rfl⟩
  simp (maxSteps := 4000000) (disch := omega) only [Zq, evO, vbox, wr, Zeq, if_true, if_false, Nat.reduceEqDiff, Nat.reduceAdd, Nat.reduceLeDiff, Nat.reduceSub, and_self, and_true, true_and, reduceIte, reduceCtorEq, eq_self, implies_true, forall_const, false_implies, imp_self, decide_true, decide_false, fix_nil, fix_cons, g0, g1, g1a]
  exact k0.trans (k1.trans k2)
section
variable {H : Heap} {a N : Nat} {f : Nat → Rnn} {va : Value}
theorem r_swapRange (R : Rw H a N f) (hva : va = .slice (some ⟨a, 0, none⟩) N 4) {A B n : Nat} (hA : A + n ≤ B) (hB : B + n ≤ N) (hN : N ≤ 1000000) : Run Try.prog 128 [va, .int .i64 (A : Int), .int .i64 (B : Int), .int .i64 (n : Int), cmpV] H fun r H' => Rk a H H' ∧ Rw H' a N (swR f A B n) ∧ r = .tuple #[] := by
  refine Run.intro c128 rfl ?_
  simp (maxSteps := 4000000) (disch := omega) only [Zq, evO, vbox, wr, Zeq, if_true, if_false, Nat.reduceEqDiff, Nat.reduceAdd, Nat.reduceLeDiff, Nat.reduceSub, and_self, and_true, true_and, reduceIte, reduceCtorEq, eq_self, implies_true, forall_const, false_implies, imp_self, decide_true, decide_false, x128]
  refine G_forF [0, 1, 2, 3] (n) (fun i T H1 => T 10 = .int .i64 (i : Int) ∧ Rk a H H1 ∧ Rw H1 a N (swR f A B i)) 0 (Nat.zero_le _) ?_ ?_
  · simp (maxSteps := 4000000) (disch := omega) only [Zq, evO, vbox, wr, Zeq, if_true, if_false, Nat.reduceEqDiff, Nat.reduceAdd, Nat.reduceLeDiff, Nat.reduceSub, and_self, and_true, true_and, reduceIte, reduceCtorEq, eq_self, implies_true, forall_const, false_implies, imp_self, decide_true, decide_false, fix_nil, fix_cons]
    exact ⟨Rk.refl _ _, by rw [swR_zero]; exact R⟩
  rintro i T H1 hi hT ⟨t10, k1, R1⟩
  simp only [fix_nil, fix_cons, Zq, evO, vbox, wr, Zeq, if_true, if_false, Nat.reduceEqDiff, Nat.reduceAdd, Nat.reduceLeDiff, Nat.reduceSub, and_self, and_true, true_and, reduceIte, reduceCtorEq, eq_self, implies_true, forall_const, false_implies, imp_self, decide_true, decide_false] at hT
  obtain ⟨t0, t1, t2, t3⟩ := hT
  by_cases hin : i < n
  · have hwA : IntKind.i64.wrap ((A : Int) + i) = ((A + i : Nat) : Int) := by rw [wrap64 (by omega) (by omega)]; omega
    have hwB : IntKind.i64.wrap ((B : Int) + i) = ((B + i : Nat) : Int) := by rw [wrap64 (by omega) (by omega)]; omega
    have iA := R1.idx hva (by omega : A + i < N)
    have iB := R1.idx hva (by omega : B + i < N)
    have lA := R1.ld hva (by omega : A + i < N)
    have lB := R1.ld hva (by omega : B + i < N)
    have e1 := R1.st hva (by omega : A + i < N) (swR f A B i (B + i))
    have R2 := R1.set (A + i) (swR f A B i (B + i))
    have e2 := R2.st hva (by omega : B + i < N) (swR f A B i (A + i))
    have R3 := R2.set (B + i) (swR f A B i (A + i))
    rw [sw_two, swR_succ (by omega)] at R3
    simp (maxSteps := 4000000) (disch := omega) only [Zq, evO, vbox, wr, Zeq, if_true, if_false, Nat.reduceEqDiff, Nat.reduceAdd, Nat.reduceLeDiff, Nat.reduceSub, and_self, and_true, true_and, reduceIte, reduceCtorEq, eq_self, implies_true, forall_const, false_implies, imp_self, decide_true, decide_false, fix_nil, fix_cons, t0, t1, t2, t3, t10, Zfh (by omega : (i : Int) < (n : Int))]
    refine G_tame rfl ?_
    simp (maxSteps := 4000000) (disch := omega) only [Zq, evO, vbox, wr, Zeq, if_true, if_false, Nat.reduceEqDiff, Nat.reduceAdd, Nat.reduceLeDiff, Nat.reduceSub, and_self, and_true, true_and, reduceIte, reduceCtorEq, eq_self, implies_true, forall_const, false_implies, imp_self, decide_true, decide_false, fix_nil, fix_cons, t0, t1, t2, t3, t10, hwA, hwB, iA, iB, lA, lB, e1, e2]
    exact ⟨hin, k1.trans (Rk.set.trans Rk.set), R3⟩
  · obtain rfl : i = n := by omega
    simp (maxSteps := 4000000) (disch := omega) only [Zq, evO, vbox, wr, Zeq, if_true, if_false, Nat.reduceEqDiff, Nat.reduceAdd, Nat.reduceLeDiff, Nat.reduceSub, and_self, and_true, true_and, reduceIte, reduceCtorEq, eq_self, implies_true, forall_const, false_implies, imp_self, decide_true, decide_false, fix_nil, fix_cons, t0, t1, t2, t3, t10, Zfi (by omega : ¬ (i : Int) < (i : Int))]
    exact ⟨k1, R1⟩
theorem r_rotate (R : Rw H a N f) (hva : va = .slice (some ⟨a, 0, none⟩) N 4) {s m e : Nat} (h1 : s < m) (h2 : m < e) (h3 : e ≤ N) (hN : N ≤ 1000000) : Run Try.prog 120 [va, .int .i64 (s : Int), .int .i64 (m : Int), .int .i64 (e : Int), cmpV] H fun r H' => Rk a H H' ∧ Rw H' a N (rot f s (m - s) (e - m)) ∧ r = .tuple #[] := by
  have w1 : IntKind.i64.wrap ((m : Int) - s) = ((m - s : Nat) : Int) := by rw [wrap64 (by omega) (by omega)]; omega
  have w2 : IntKind.i64.wrap ((e : Int) - m) = ((e - m : Nat) : Int) := by rw [wrap64 (by omega) (by omega)]; omega
  refine Run.intro c120 rfl ?_
  simp (maxSteps := 4000000) (disch := omega) only [Zq, evO, vbox, wr, Zeq, if_true, if_false, Nat.reduceEqDiff, Nat.reduceAdd, Nat.reduceLeDiff, Nat.reduceSub, and_self, and_true, true_and, reduceIte, reduceCtorEq, eq_self, implies_true, forall_const, false_implies, imp_self, decide_true, decide_false, x120, w1, w2]
  refine G_loopF [0, 2, 4] ((m - s + (e - m))) (fun k T H1 => ∃ (i j : Nat) (g : Nat → Rnn), T 10 = .int .i64 (i : Int) ∧ T 11 = .int .i64 (j : Int) ∧ k = i + j ∧ 0 < i ∧ 0 < j ∧ i ≤ m ∧ m + j ≤ N ∧ Rk a H H1 ∧ Rw H1 a N g ∧ rot g (m - i) i j = rot f s (m - s) (e - m)) ?_ ?_
  · simp (maxSteps := 4000000) (disch := omega) only [Zq, evO, vbox, wr, Zeq, if_true, if_false, Nat.reduceEqDiff, Nat.reduceAdd, Nat.reduceLeDiff, Nat.reduceSub, and_self, and_true, true_and, reduceIte, reduceCtorEq, eq_self, implies_true, forall_const, false_implies, imp_self, decide_true, decide_false, fix_nil, fix_cons]
    exact ⟨m - s, e - m, f, rfl, rfl, rfl, by omega, by omega, by omega, by omega, Rk.refl _ _, R, by rw [show m - (m - s) = s by omega]⟩
  rintro k T H1 hT ⟨i, j, g, t10, t11, hk, hi0, hj0, hi, hj, k1, R1, hr⟩
  simp only [fix_nil, fix_cons, Zq, evO, vbox, wr, Zeq, if_true, if_false, Nat.reduceEqDiff, Nat.reduceAdd, Nat.reduceLeDiff, Nat.reduceSub, and_self, and_true, true_and, reduceIte, reduceCtorEq, eq_self, implies_true, forall_const, false_implies, imp_self, decide_true, decide_false] at hT
  obtain ⟨t0, t2, t4⟩ := hT
  have w3 : IntKind.i64.wrap ((m : Int) - i) = ((m - i : Nat) : Int) := by rw [wrap64 (by omega) (by omega)]; omega
  by_cases hij : (i : Int) = j
  · obtain rfl : i = j := by omega
    simp (maxSteps := 4000000) (disch := omega) only [Zq, evO, vbox, wr, Zeq, if_true, if_false, Nat.reduceEqDiff, Nat.reduceAdd, Nat.reduceLeDiff, Nat.reduceSub, and_self, and_true, true_and, reduceIte, reduceCtorEq, eq_self, implies_true, forall_const, false_implies, imp_self, decide_true, decide_false, fix_nil, fix_cons, t0, t2, t4, t10, t11, Zfl (rfl : (i : Int) = i), w3]
    refine GO_call ((r_swapRange R1 hva (A := m - i) (B := m) (n := i) (by omega) (by omega) hN).mono ?_)
    rintro _ H2 ⟨k2, R2, rfl⟩
    simp (maxSteps := 4000000) (disch := omega) only [Zq, evO, vbox, wr, Zeq, if_true, if_false, Nat.reduceEqDiff, Nat.reduceAdd, Nat.reduceLeDiff, Nat.reduceSub, and_self, and_true, true_and, reduceIte, reduceCtorEq, eq_self, implies_true, forall_const, false_implies, imp_self, decide_true, decide_false, fix_nil, fix_cons, t0, t2, t4, t10, t11]
    refine ⟨k1.trans k2, ?_⟩
    have e1 : swR g (m - i) m i = rot g (m - i) i i := by
      have := rot_eq (f := g) (s := m - i) (i := i)
      rwa [show m - i + i = m by omega] at this
    rw [e1, hr] at R2
    exact R2
  by_cases hgt : (j : Int) < i
  · have w4 : IntKind.i64.wrap ((i : Int) - j) = ((i - j : Nat) : Int) := by rw [wrap64 (by omega) (by omega)]; omega
    simp (maxSteps := 4000000) (disch := omega) only [Zq, evO, vbox, wr, Zeq, if_true, if_false, Nat.reduceEqDiff, Nat.reduceAdd, Nat.reduceLeDiff, Nat.reduceSub, and_self, and_true, true_and, reduceIte, reduceCtorEq, eq_self, implies_true, forall_const, false_implies, imp_self, decide_true, decide_false, fix_nil, fix_cons, t0, t2, t4, t10, t11, Zfm hij, Zfh hgt, w3]
    refine GO_call ((r_swapRange R1 hva (A := m - i) (B := m) (n := j) (by omega) (by omega) hN).mono ?_)
    rintro _ H2 ⟨k2, R2, rfl⟩
    simp (maxSteps := 4000000) (disch := omega) only [Zq, evO, vbox, wr, Zeq, if_true, if_false, Nat.reduceEqDiff, Nat.reduceAdd, Nat.reduceLeDiff, Nat.reduceSub, and_self, and_true, true_and, reduceIte, reduceCtorEq, eq_self, implies_true, forall_const, false_implies, imp_self, decide_true, decide_false, fix_nil, fix_cons, t0, t2, t4, t10, t11, w4]
    refine ⟨i - j + j, by omega, i - j, j, _, rfl, rfl, rfl, by omega, hj0, by omega, hj, k1.trans k2, R2, ?_⟩
    rw [← hr, ← rot_gt (f := g) (s := m - i) (i := i) (j := j) (by omega), show m - i + i = m by omega, show m - i + j = m - (i - j) by omega]
  · have w4 : IntKind.i64.wrap ((j : Int) - i) = ((j - i : Nat) : Int) := by rw [wrap64 (by omega) (by omega)]; omega
    have w5 : IntKind.i64.wrap ((m : Int) + j) = ((m + j : Nat) : Int) := by rw [wrap64 (by omega) (by omega)]; omega
    have w6 : IntKind.i64.wrap (((m + j : Nat) : Int) - i) = ((m + j - i : Nat) : Int) := by rw [wrap64 (by omega) (by omega)]; omega
    simp (maxSteps := 4000000) (disch := omega) only [Zq, evO, vbox, wr, Zeq, if_true, if_false, Nat.reduceEqDiff, Nat.reduceAdd, Nat.reduceLeDiff, Nat.reduceSub, and_self, and_true, true_and, reduceIte, reduceCtorEq, eq_self, implies_true, forall_const, false_implies, imp_self, decide_true, decide_false, fix_nil, fix_cons, t0, t2, t4, t10, t11, Zfm hij, Zfi hgt, w3, w5, w6]
    refine GO_call ((r_swapRange R1 hva (A := m - i) (B := m + j - i) (n := i) (by omega) (by omega) hN).mono ?_)
    rintro _ H2 ⟨k2, R2, rfl⟩
    simp (maxSteps := 4000000) (disch := omega) only [Zq, evO, vbox, wr, Zeq, if_true, if_false, Nat.reduceEqDiff, Nat.reduceAdd, Nat.reduceLeDiff, Nat.reduceSub, and_self, and_true, true_and, reduceIte, reduceCtorEq, eq_self, implies_true, forall_const, false_implies, imp_self, decide_true, decide_false, fix_nil, fix_cons, t0, t2, t4, t10, t11, w4]
    refine ⟨i + (j - i), by omega, i, j - i, _, rfl, rfl, rfl, hi0, by omega, hi, by omega, k1.trans k2, R2, ?_⟩
    rw [← hr, ← rot_lt (f := g) (s := m - i) (i := i) (j := j) (by omega), show m - i + j = m + j - i by omega]
/-! ### The order -/
def bfR (x y : Rnn) : Prop := x.1 < y.1 ∨ x.1 = y.1 ∧ x.2.1 < y.2.1
def ltR (x y : Rnn) : Prop := x.2.2.1 < y.2.2.1 ∨ x.2.2.1 = y.2.2.1 ∧ bfR x y
theorem odR : Od ltR bfR lsR := by
  refine ⟨fun {x y z} h1 h2 => ?_, fun {x y} h1 h2 => ?_, fun {x y} h1 h2 => ?_⟩
  · unfold ltR bfR at *; omega
  · have := of_decide_eq_true h2; exact .inl this
  · have := of_decide_eq_false h2
    by_cases e : x.2.2.1 < y.2.2.1
    · exact .inl e
    · exact .inr ⟨by omega, h1⟩
theorem irrR (x : Rnn) : ¬ ltR x x := by unfold ltR bfR; omega
end
end Go.Proofs.Ytjjglonmaajjoaa.AX
