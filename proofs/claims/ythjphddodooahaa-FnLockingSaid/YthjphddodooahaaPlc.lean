/- Plants: routes against each other. No condition beyond each law's own; of the program: the functions' forms. -/
import Derived.Test.YthjphddodooahaaPlb
namespace Go.Proofs.Ythjphddodooahaa.AX
open Go
set_option maxRecDepth 10000
set_option maxHeartbeats 4000000
set_option linter.unusedSimpArgs false
set_option linter.unusedVariables false
def ndAg (x y : Nd) : Bool := decide (x.1 = y.1) && !(decide (x.2 = y.2))
def agOne (l : List Nd) (x : Nd) : Bool := allTo l.length (fun j => !(ndAg x (nd l j)))
/-- Whether no two stand against each other. -/
def agNo (a b : Rt) : Bool := allTo a.2.length (fun i => !(b.2.contains (a.2.getD i 0))) && allTo a.1.length (fun i => agOne b.1 (nd a.1 i))
section
variable {H : Heap} {va vb wa wb : Value} {a b : Rt}
theorem agNo_1 {i : Nat} (hi : i < a.2.length) (h : b.2.contains (a.2.getD i 0) = true) : agNo a b = false := by
  rw [agNo, allTo_bad (f := fun i => !(b.2.contains (a.2.getD i 0))) hi (by show (!_) = false; rw [h]; rfl)]; rfl
theorem agNo_2 {i j : Nat} (hi : i < a.1.length) (hj : j < b.1.length) (h : ndAg (nd a.1 i) (nd b.1 j) = true) : agNo a b = false := by
  rw [agNo, allTo_bad (f := fun i => agOne b.1 (nd a.1 i)) hi (by show agOne _ _ = false; rw [agOne, allTo_bad (f := fun j => !(ndAg (nd a.1 i) (nd b.1 j))) hj (by show (!_) = false; rw [h]; rfl)])]
  simp
theorem r_impl_against (ha : (rSlc rNeed).rd H [va] a.1) (ha2 : (rSlc rInt).rd H [wa] a.2) (hb : (rSlc rNeed).rd H [vb] b.1) (hb2 : (rSlc rInt).rd H [wb] b.2) (al : a.1.length ≤ 1048576) (al2 : a.2.length ≤ 1048576) (bl : b.1.length ≤ 1048576) (bl2 : b.2.length ≤ 1048576) : Run Try.prog 50 [.agg #[va, wa], .agg #[vb, wb]] H fun x H' => Keep H H' ∧ x = .bool (!(agNo a b)) := by
  have la : ∀ H : Heap, vlen H va = some (.int .i64 a.1.length, H) := fun _ => slc_len ha
  have la2 : ∀ H : Heap, vlen H wa = some (.int .i64 a.2.length, H) := fun _ => slc_len ha2
  have lb : ∀ H : Heap, vlen H vb = some (.int .i64 b.1.length, H) := fun _ => slc_len hb
  refine Run.intro c50 rfl ?_
  simp (maxSteps := 4000000) (disch := omega) only [Zq, evO, vbox, wr, Zeq, if_true, if_false, Nat.reduceEqDiff, Nat.reduceAdd, Nat.reduceLeDiff, Nat.reduceSub, and_self, and_true, true_and, reduceIte, reduceCtorEq, eq_self, implies_true, forall_const, false_implies, imp_self, decide_true, decide_false, x50, la2]
  generalize hG0 : (H.push [va, wa]).push [vb, wb] = H0
  have k0 : Keep H H0 := by rw [← hG0]; repeat' (first | exact Keep.refl _ | assumption | refine Keep.push' ?_ | refine Keep.set' ?_ ?_ | refine Keep.moved' ?_ ?_ | omega)
  have g0 : H0.get H.nxt = some (.own [va, wa]) := by rw [← hG0]; simp (maxSteps := 4000000) (disch := omega) only [Zq, evO, vbox, wr, Zeq, if_true, if_false, Nat.reduceEqDiff, Nat.reduceAdd, Nat.reduceLeDiff, Nat.reduceSub, and_self, and_true, true_and, reduceIte, reduceCtorEq, eq_self, implies_true, forall_const, false_implies, imp_self, decide_true, decide_false]
  have g0r : H0.get (H.nxt + 1) = some (.own [vb, wb]) := by rw [← hG0]; simp (maxSteps := 4000000) (disch := omega) only [Zq, evO, vbox, wr, Zeq, if_true, if_false, Nat.reduceEqDiff, Nat.reduceAdd, Nat.reduceLeDiff, Nat.reduceSub, and_self, and_true, true_and, reduceIte, reduceCtorEq, eq_self, implies_true, forall_const, false_implies, imp_self, decide_true, decide_false]
  have n0 : H0.nxt = H.nxt + 2 := by rw [← hG0]; simp only [Zbg]
  clear hG0
  refine G_forF [2, 3, 12, 13] (a.2.length) (fun i T H1 => T 14 = .int .i64 (i : Int) ∧ Keep H0 H1 ∧ ∀ j, j < i → (!(b.2.contains (a.2.getD j 0))) = true) 0 (Nat.zero_le _) ?_ ?_
  · simp (maxSteps := 4000000) (disch := omega) only [Zq, evO, vbox, wr, Zeq, if_true, if_false, Nat.reduceEqDiff, Nat.reduceAdd, Nat.reduceLeDiff, Nat.reduceSub, and_self, and_true, true_and, reduceIte, reduceCtorEq, eq_self, implies_true, forall_const, false_implies, imp_self, decide_true, decide_false, fix_nil, fix_cons, g0, g0r]
    exact ⟨Keep.refl _, fun j hj => by omega⟩
  rintro i T H1 hi hT ⟨t14, k1, hc⟩
  simp only [fix_nil, fix_cons, Zq, evO, vbox, wr, Zeq, if_true, if_false, Nat.reduceEqDiff, Nat.reduceAdd, Nat.reduceLeDiff, Nat.reduceSub, and_self, and_true, true_and, reduceIte, reduceCtorEq, eq_self, implies_true, forall_const, false_implies, imp_self, decide_true, decide_false] at hT
  obtain ⟨t2, t3, t12, t13⟩ := hT
  have n1 := k1.nxt
  have g1 := (k1.get H.nxt (by omega)).trans g0
  have g1r := (k1.get (H.nxt + 1) (by omega)).trans g0r
  have k01 := k0.trans k1
  by_cases hin : i < a.2.length
  · have hi2 := (ints_of ha2).keep k01
    simp (maxSteps := 4000000) (disch := omega) only [Zq, evO, vbox, wr, Zeq, if_true, if_false, Nat.reduceEqDiff, Nat.reduceAdd, Nat.reduceLeDiff, Nat.reduceSub, and_self, and_true, true_and, reduceIte, reduceCtorEq, eq_self, implies_true, forall_const, false_implies, imp_self, decide_true, decide_false, fix_nil, fix_cons, g0, g0r, t2, t3, t12, t13, t14, g1, g1r, hi2.idx hin, hi2.ld hin]
    refine GO_call ((r_impl_has (x := a.2.getD i 0) ((ints_of hb2).keep k01) (by omega)).mono ?_)
    rintro _ H3 ⟨k3, rfl⟩
    have n3 := k3.nxt
    by_cases d1 : b.2.contains (a.2.getD i 0) = true
    · simp (maxSteps := 4000000) (disch := omega) only [Zq, evO, vbox, wr, Zeq, if_true, if_false, Nat.reduceEqDiff, Nat.reduceAdd, Nat.reduceLeDiff, Nat.reduceSub, and_self, and_true, true_and, reduceIte, reduceCtorEq, eq_self, implies_true, forall_const, false_implies, imp_self, decide_true, decide_false, fix_nil, fix_cons, g0, g0r, t2, t3, t12, t13, t14, g1, g1r, d1]
      exact ⟨k01.trans k3, by rw [agNo_1 hin d1]; rfl⟩
    · have d1' : b.2.contains (a.2.getD i 0) = false := by simpa using d1
      simp (maxSteps := 4000000) (disch := omega) only [Zq, evO, vbox, wr, Zeq, if_true, if_false, Nat.reduceEqDiff, Nat.reduceAdd, Nat.reduceLeDiff, Nat.reduceSub, and_self, and_true, true_and, reduceIte, reduceCtorEq, eq_self, implies_true, forall_const, false_implies, imp_self, decide_true, decide_false, fix_nil, fix_cons, g0, g0r, t2, t3, t12, t13, t14, g1, g1r, d1']
      exact ⟨hin, k1.trans k3, upto_succ (f := fun j => !(b.2.contains (a.2.getD j 0))) hc (by show (!_) = true; rw [d1']; rfl)⟩
  obtain rfl : i = a.2.length := by omega
  have hA := allTo_iff (f := fun j => !(b.2.contains (a.2.getD j 0))) |>.2 hc
  simp (maxSteps := 4000000) (disch := omega) only [Zq, evO, vbox, wr, Zeq, if_true, if_false, Nat.reduceEqDiff, Nat.reduceAdd, Nat.reduceLeDiff, Nat.reduceSub, and_self, and_true, true_and, reduceIte, reduceCtorEq, eq_self, implies_true, forall_const, false_implies, imp_self, decide_true, decide_false, fix_nil, fix_cons, g0, g0r, t2, t3, t12, t13, t14, g1, g1r, la]
  refine G_forF [3, 24, 25] (a.1.length) (fun i T H2 => T 26 = .int .i64 (i : Int) ∧ Keep H1 H2 ∧ ∀ j, j < i → agOne b.1 (nd a.1 j) = true) 0 (Nat.zero_le _) ?_ ?_
  · simp (maxSteps := 4000000) (disch := omega) only [Zq, evO, vbox, wr, Zeq, if_true, if_false, Nat.reduceEqDiff, Nat.reduceAdd, Nat.reduceLeDiff, Nat.reduceSub, and_self, and_true, true_and, reduceIte, reduceCtorEq, eq_self, implies_true, forall_const, false_implies, imp_self, decide_true, decide_false, fix_nil, fix_cons, g0, g0r, t2, t3, t12, t13, t14, g1, g1r]
    exact ⟨Keep.refl _, fun j hj => by omega⟩
  rintro i T H2 hi hT ⟨t26, k2, hd⟩
  simp only [fix_nil, fix_cons, Zq, evO, vbox, wr, Zeq, if_true, if_false, Nat.reduceEqDiff, Nat.reduceAdd, Nat.reduceLeDiff, Nat.reduceSub, and_self, and_true, true_and, reduceIte, reduceCtorEq, eq_self, implies_true, forall_const, false_implies, imp_self, decide_true, decide_false, t2, t3, t12, t13, t14] at hT
  obtain ⟨t3, t24, t25⟩ := hT
  have n2 := k2.nxt
  have g2r := (k2.get (H.nxt + 1) (by omega)).trans g1r
  have k02 := k01.trans k2
  by_cases hin : i < a.1.length
  · obtain ⟨e3, _, _⟩ := need_el ((rSlc rNeed).rdk ha k02) hin
    simp (maxSteps := 4000000) (disch := omega) only [Zq, evO, vbox, wr, Zeq, if_true, if_false, Nat.reduceEqDiff, Nat.reduceAdd, Nat.reduceLeDiff, Nat.reduceSub, and_self, and_true, true_and, reduceIte, reduceCtorEq, eq_self, implies_true, forall_const, false_implies, imp_self, decide_true, decide_false, fix_nil, fix_cons, g0, g0r, t2, t3, t12, t13, t14, g1, g1r, t24, t25, t26, g2r, slc_idx (r := rNeed) (sz := 2) rfl ha hin, e3, lb]
    generalize hG3 : (H2.push [.int .i64 0, .int .i64 0]).set H2.nxt [.int .i64 (nd a.1 i).1, .int .i64 (nd a.1 i).2] = H3
    have k3 : Keep H2 H3 := by rw [← hG3]; repeat' (first | exact Keep.refl _ | assumption | refine Keep.push' ?_ | refine Keep.set' ?_ ?_ | refine Keep.moved' ?_ ?_ | omega)
    have g3 : H3.get H2.nxt = some (.own [.int .i64 (nd a.1 i).1, .int .i64 (nd a.1 i).2]) := by rw [← hG3, Zbi, if_pos rfl]
    have n3 : H3.nxt = H2.nxt + 1 := by rw [← hG3, Zbh, Zbg]
    have g3r := (k3.get (H.nxt + 1) (by omega)).trans g2r
    have k03 := k02.trans k3
    clear hG3
    refine G_forF [3, 8, 24, 25, 26, 31, 32] (b.1.length) (fun j T H4 => T 33 = .int .i64 (j : Int) ∧ Keep H3 H4 ∧ ∀ k, k < j → (!(ndAg (nd a.1 i) (nd b.1 k))) = true) 0 (Nat.zero_le _) ?_ ?_
    · simp (maxSteps := 4000000) (disch := omega) only [Zq, evO, vbox, wr, Zeq, if_true, if_false, Nat.reduceEqDiff, Nat.reduceAdd, Nat.reduceLeDiff, Nat.reduceSub, and_self, and_true, true_and, reduceIte, reduceCtorEq, eq_self, implies_true, forall_const, false_implies, imp_self, decide_true, decide_false, fix_nil, fix_cons, g0, g0r, t2, t3, t12, t13, t14, g1, g1r, t24, t25, t26, g2r, g3, g3r]
      exact ⟨Keep.refl _, fun j hj => by omega⟩
    rintro j T H4 hj hT ⟨t33, k4, he⟩
    simp only [fix_nil, fix_cons, Zq, evO, vbox, wr, Zeq, if_true, if_false, Nat.reduceEqDiff, Nat.reduceAdd, Nat.reduceLeDiff, Nat.reduceSub, and_self, and_true, true_and, reduceIte, reduceCtorEq, eq_self, implies_true, forall_const, false_implies, imp_self, decide_true, decide_false, t2, t3, t12, t13, t14, t24, t25, t26] at hT
    obtain ⟨t3, t8, t24, t25, t26, t31, t32⟩ := hT
    have n4 := k4.nxt
    have g4 := (k4.get H2.nxt (by omega)).trans g3
    have k04 := k03.trans k4
    by_cases hjn : j < b.1.length
    · obtain ⟨e5, _, _⟩ := need_el ((rSlc rNeed).rdk hb k04) hjn
      have fin : ∀ x : Bool, ndAg (nd a.1 i) (nd b.1 j) = false → ∀ k, k < j + 1 → (!(ndAg (nd a.1 i) (nd b.1 k))) = true := fun x h => upto_succ (f := fun k => !(ndAg (nd a.1 i) (nd b.1 k))) he (by show (!_) = true; rw [h]; rfl)
      by_cases c1 : (nd a.1 i).1 = (nd b.1 j).1
      · by_cases c2 : (nd a.1 i).2 = (nd b.1 j).2
        · simp (maxSteps := 4000000) (disch := omega) only [Zq, evO, vbox, wr, Zeq, if_true, if_false, Nat.reduceEqDiff, Nat.reduceAdd, Nat.reduceLeDiff, Nat.reduceSub, and_self, and_true, true_and, reduceIte, reduceCtorEq, eq_self, implies_true, forall_const, false_implies, imp_self, decide_true, decide_false, fix_nil, fix_cons, g0, g0r, t2, t3, t12, t13, t14, g1, g1r, t24, t25, t26, g2r, g3, g3r, t8, t31, t32, t33, g4, slc_idx (r := rNeed) (sz := 2) rfl hb hjn, e5]
          exact ⟨hjn, by repeat' (first | exact Keep.refl _ | assumption | refine Keep.push' ?_ | refine Keep.set' ?_ ?_ | refine Keep.moved' ?_ ?_ | omega), fin true (by simp [ndAg, c2])⟩
        · simp (maxSteps := 4000000) (disch := omega) only [Zq, evO, vbox, wr, Zeq, if_true, if_false, Nat.reduceEqDiff, Nat.reduceAdd, Nat.reduceLeDiff, Nat.reduceSub, and_self, and_true, true_and, reduceIte, reduceCtorEq, eq_self, implies_true, forall_const, false_implies, imp_self, decide_true, decide_false, fix_nil, fix_cons, g0, g0r, t2, t3, t12, t13, t14, g1, g1r, t24, t25, t26, g2r, g3, g3r, t8, t31, t32, t33, g4, slc_idx (r := rNeed) (sz := 2) rfl hb hjn, e5]
          exact ⟨by repeat' (first | exact Keep.refl _ | assumption | refine Keep.push' ?_ | refine Keep.set' ?_ ?_ | refine Keep.moved' ?_ ?_ | omega), by rw [agNo_2 hin hjn (by simp [ndAg, c1, c2])]; rfl⟩
      · simp (maxSteps := 4000000) (disch := omega) only [Zq, evO, vbox, wr, Zeq, if_true, if_false, Nat.reduceEqDiff, Nat.reduceAdd, Nat.reduceLeDiff, Nat.reduceSub, and_self, and_true, true_and, reduceIte, reduceCtorEq, eq_self, implies_true, forall_const, false_implies, imp_self, decide_true, decide_false, fix_nil, fix_cons, g0, g0r, t2, t3, t12, t13, t14, g1, g1r, t24, t25, t26, g2r, g3, g3r, t8, t31, t32, t33, g4, slc_idx (r := rNeed) (sz := 2) rfl hb hjn, e5]
        exact ⟨hjn, by repeat' (first | exact Keep.refl _ | assumption | refine Keep.push' ?_ | refine Keep.set' ?_ ?_ | refine Keep.moved' ?_ ?_ | omega), fin true (by simp [ndAg, c1])⟩
    obtain rfl : j = b.1.length := by omega
    simp (maxSteps := 4000000) (disch := omega) only [Zq, evO, vbox, wr, Zeq, if_true, if_false, Nat.reduceEqDiff, Nat.reduceAdd, Nat.reduceLeDiff, Nat.reduceSub, and_self, and_true, true_and, reduceIte, reduceCtorEq, eq_self, implies_true, forall_const, false_implies, imp_self, decide_true, decide_false, fix_nil, fix_cons, g0, g0r, t2, t3, t12, t13, t14, g1, g1r, t24, t25, t26, g2r, g3, g3r, t8, t31, t32, t33, g4]
    exact ⟨hin, k2.trans (k3.trans k4), upto_succ (f := fun j => agOne b.1 (nd a.1 j)) hd (allTo_iff.2 he)⟩
  obtain rfl : i = a.1.length := by omega
  simp (maxSteps := 4000000) (disch := omega) only [Zq, evO, vbox, wr, Zeq, if_true, if_false, Nat.reduceEqDiff, Nat.reduceAdd, Nat.reduceLeDiff, Nat.reduceSub, and_self, and_true, true_and, reduceIte, reduceCtorEq, eq_self, implies_true, forall_const, false_implies, imp_self, decide_true, decide_false, fix_nil, fix_cons, g0, g0r, t2, t3, t12, t13, t14, g1, g1r, t24, t25, t26, g2r]
  refine ⟨k02, ?_⟩
  have hB := allTo_iff (f := fun j => agOne b.1 (nd a.1 j)) |>.2 hd
  rw [agNo, hA, hB]
  rfl
theorem r_spec_l06Against (ha : (rSlc rNeed).rd H [va] a.1) (ha2 : (rSlc rInt).rd H [wa] a.2) (hb : (rSlc rNeed).rd H [vb] b.1) (hb2 : (rSlc rInt).rd H [wb] b.2) (al : a.1.length ≤ 1048576) (al2 : a.2.length ≤ 1048576) (bl : b.1.length ≤ 1048576) (bl2 : b.2.length ≤ 1048576) : Run Try.prog 70 [.agg #[va, wa], .agg #[vb, wb]] H fun x H' => Keep H H' ∧ x = .bool (!(agNo a b)) := by
  have la : ∀ H : Heap, vlen H va = some (.int .i64 a.1.length, H) := fun _ => slc_len ha
  have la2 : ∀ H : Heap, vlen H wa = some (.int .i64 a.2.length, H) := fun _ => slc_len ha2
  have lb : ∀ H : Heap, vlen H vb = some (.int .i64 b.1.length, H) := fun _ => slc_len hb
  refine Run.intro c70 rfl ?_
  simp (maxSteps := 4000000) (disch := omega) only [Zq, evO, vbox, wr, Zeq, if_true, if_false, Nat.reduceEqDiff, Nat.reduceAdd, Nat.reduceLeDiff, Nat.reduceSub, and_self, and_true, true_and, reduceIte, reduceCtorEq, eq_self, implies_true, forall_const, false_implies, imp_self, decide_true, decide_false, x70]
  generalize hG0 : (H.push [va, wa]).push [vb, wb] = H0
  have k0 : Keep H H0 := by rw [← hG0]; repeat' (first | exact Keep.refl _ | assumption | refine Keep.push' ?_ | refine Keep.set' ?_ ?_ | refine Keep.moved' ?_ ?_ | omega)
  have g0 : H0.get H.nxt = some (.own [va, wa]) := by rw [← hG0]; simp (maxSteps := 4000000) (disch := omega) only [Zq, evO, vbox, wr, Zeq, if_true, if_false, Nat.reduceEqDiff, Nat.reduceAdd, Nat.reduceLeDiff, Nat.reduceSub, and_self, and_true, true_and, reduceIte, reduceCtorEq, eq_self, implies_true, forall_const, false_implies, imp_self, decide_true, decide_false]
  have g0r : H0.get (H.nxt + 1) = some (.own [vb, wb]) := by rw [← hG0]; simp (maxSteps := 4000000) (disch := omega) only [Zq, evO, vbox, wr, Zeq, if_true, if_false, Nat.reduceEqDiff, Nat.reduceAdd, Nat.reduceLeDiff, Nat.reduceSub, and_self, and_true, true_and, reduceIte, reduceCtorEq, eq_self, implies_true, forall_const, false_implies, imp_self, decide_true, decide_false]
  have n0 : H0.nxt = H.nxt + 2 := by rw [← hG0]; simp only [Zbg]
  clear hG0
  refine G_forF [2, 3] (a.2.length) (fun i T H1 => T 5 = .int .i64 (i : Int) ∧ Keep H0 H1 ∧ ∀ j, j < i → (!(b.2.contains (a.2.getD j 0))) = true) 0 (Nat.zero_le _) ?_ ?_
  · simp (maxSteps := 4000000) (disch := omega) only [Zq, evO, vbox, wr, Zeq, if_true, if_false, Nat.reduceEqDiff, Nat.reduceAdd, Nat.reduceLeDiff, Nat.reduceSub, and_self, and_true, true_and, reduceIte, reduceCtorEq, eq_self, implies_true, forall_const, false_implies, imp_self, decide_true, decide_false, fix_nil, fix_cons, g0, g0r]
    exact ⟨Keep.refl _, fun j hj => by omega⟩
  rintro i T H1 hi hT ⟨t5, k1, hc⟩
  simp only [fix_nil, fix_cons, Zq, evO, vbox, wr, Zeq, if_true, if_false, Nat.reduceEqDiff, Nat.reduceAdd, Nat.reduceLeDiff, Nat.reduceSub, and_self, and_true, true_and, reduceIte, reduceCtorEq, eq_self, implies_true, forall_const, false_implies, imp_self, decide_true, decide_false] at hT
  obtain ⟨t2, t3⟩ := hT
  have n1 := k1.nxt
  have g1 := (k1.get H.nxt (by omega)).trans g0
  have g1r := (k1.get (H.nxt + 1) (by omega)).trans g0r
  have k01 := k0.trans k1
  by_cases hin : i < a.2.length
  · have hi2 := (ints_of ha2).keep k01
    simp (maxSteps := 4000000) (disch := omega) only [Zq, evO, vbox, wr, Zeq, if_true, if_false, Nat.reduceEqDiff, Nat.reduceAdd, Nat.reduceLeDiff, Nat.reduceSub, and_self, and_true, true_and, reduceIte, reduceCtorEq, eq_self, implies_true, forall_const, false_implies, imp_self, decide_true, decide_false, fix_nil, fix_cons, g0, g0r, t2, t3, t5, g1, g1r, la2]
    refine G_tame rfl ?_
    simp (maxSteps := 4000000) (disch := omega) only [Zq, evO, vbox, wr, Zeq, if_true, if_false, Nat.reduceEqDiff, Nat.reduceAdd, Nat.reduceLeDiff, Nat.reduceSub, and_self, and_true, true_and, reduceIte, reduceCtorEq, eq_self, implies_true, forall_const, false_implies, imp_self, decide_true, decide_false, fix_nil, fix_cons, g0, g0r, t2, t3, t5, g1, g1r, hi2.idx hin, hi2.ld hin]
    refine GO_call ((r_spec_l01Has (x := a.2.getD i 0) ((ints_of hb2).keep k01) (by omega)).mono ?_)
    rintro _ H3 ⟨k3, rfl⟩
    have n3 := k3.nxt
    by_cases d1 : b.2.contains (a.2.getD i 0) = true
    · simp (maxSteps := 4000000) (disch := omega) only [Zq, evO, vbox, wr, Zeq, if_true, if_false, Nat.reduceEqDiff, Nat.reduceAdd, Nat.reduceLeDiff, Nat.reduceSub, and_self, and_true, true_and, reduceIte, reduceCtorEq, eq_self, implies_true, forall_const, false_implies, imp_self, decide_true, decide_false, fix_nil, fix_cons, g0, g0r, t2, t3, t5, g1, g1r, d1]
      exact ⟨k01.trans k3, by rw [agNo_1 hin d1]; rfl⟩
    · have d1' : b.2.contains (a.2.getD i 0) = false := by simpa using d1
      simp (maxSteps := 4000000) (disch := omega) only [Zq, evO, vbox, wr, Zeq, if_true, if_false, Nat.reduceEqDiff, Nat.reduceAdd, Nat.reduceLeDiff, Nat.reduceSub, and_self, and_true, true_and, reduceIte, reduceCtorEq, eq_self, implies_true, forall_const, false_implies, imp_self, decide_true, decide_false, fix_nil, fix_cons, g0, g0r, t2, t3, t5, g1, g1r, d1']
      exact ⟨hin, k1.trans k3, upto_succ (f := fun j => !(b.2.contains (a.2.getD j 0))) hc (by show (!_) = true; rw [d1']; rfl)⟩
  obtain rfl : i = a.2.length := by omega
  have hA := allTo_iff (f := fun j => !(b.2.contains (a.2.getD j 0))) |>.2 hc
  simp (maxSteps := 4000000) (disch := omega) only [Zq, evO, vbox, wr, Zeq, if_true, if_false, Nat.reduceEqDiff, Nat.reduceAdd, Nat.reduceLeDiff, Nat.reduceSub, and_self, and_true, true_and, reduceIte, reduceCtorEq, eq_self, implies_true, forall_const, false_implies, imp_self, decide_true, decide_false, fix_nil, fix_cons, g0, g0r, t2, t3, t5, g1, g1r, la2]
  refine G_forF [2, 3] (a.1.length) (fun i T H2 => T 6 = .int .i64 (i : Int) ∧ Keep H1 H2 ∧ ∀ j, j < i → agOne b.1 (nd a.1 j) = true) 0 (Nat.zero_le _) ?_ ?_
  · simp (maxSteps := 4000000) (disch := omega) only [Zq, evO, vbox, wr, Zeq, if_true, if_false, Nat.reduceEqDiff, Nat.reduceAdd, Nat.reduceLeDiff, Nat.reduceSub, and_self, and_true, true_and, reduceIte, reduceCtorEq, eq_self, implies_true, forall_const, false_implies, imp_self, decide_true, decide_false, fix_nil, fix_cons, g0, g0r, t2, t3, t5, g1, g1r]
    exact ⟨Keep.refl _, fun j hj => by omega⟩
  rintro i T H2 hi hT ⟨t6, k2, hd⟩
  simp only [fix_nil, fix_cons, Zq, evO, vbox, wr, Zeq, if_true, if_false, Nat.reduceEqDiff, Nat.reduceAdd, Nat.reduceLeDiff, Nat.reduceSub, and_self, and_true, true_and, reduceIte, reduceCtorEq, eq_self, implies_true, forall_const, false_implies, imp_self, decide_true, decide_false, t2, t3, t5] at hT
  obtain ⟨t2, t3⟩ := hT
  have n2 := k2.nxt
  have g2 := (k2.get H.nxt (by omega)).trans g1
  have g2r := (k2.get (H.nxt + 1) (by omega)).trans g1r
  have k02 := k01.trans k2
  by_cases hin : i < a.1.length
  · obtain ⟨_, e3, e4⟩ := need_el ((rSlc rNeed).rdk ha k02) hin
    have ixa := fun H0 : Heap => slc_idx (r := rNeed) (H1 := H0) (sz := 2) (i := i) (k := .i64) rfl ha hin
    have fxa := fun (H0 : Heap) (o off : Nat) => slc_fad (r := rNeed) (H1 := H0) (sz := 2) (o := o) (off := off) rfl ha hin
    simp (maxSteps := 4000000) (disch := omega) only [Zq, evO, vbox, wr, Zeq, if_true, if_false, Nat.reduceEqDiff, Nat.reduceAdd, Nat.reduceLeDiff, Nat.reduceSub, and_self, and_true, true_and, reduceIte, reduceCtorEq, eq_self, implies_true, forall_const, false_implies, imp_self, decide_true, decide_false, fix_nil, fix_cons, g0, g0r, t2, t3, t5, g1, g1r, t6, g2, g2r, la]
    refine G_forF [2, 3, 6] (b.1.length) (fun j T H4 => T 7 = .int .i64 (j : Int) ∧ H4 = H2 ∧ ∀ k, k < j → (!(ndAg (nd a.1 i) (nd b.1 k))) = true) 0 (Nat.zero_le _) ?_ ?_
    · simp (maxSteps := 4000000) (disch := omega) only [Zq, evO, vbox, wr, Zeq, if_true, if_false, Nat.reduceEqDiff, Nat.reduceAdd, Nat.reduceLeDiff, Nat.reduceSub, and_self, and_true, true_and, reduceIte, reduceCtorEq, eq_self, implies_true, forall_const, false_implies, imp_self, decide_true, decide_false, fix_nil, fix_cons, g0, g0r, t2, t3, t5, g1, g1r, t6, g2, g2r]
      exact fun j hj => by omega
    rintro j T H4 hj hT ⟨t7, h4, he⟩
    simp only [fix_nil, fix_cons, Zq, evO, vbox, wr, Zeq, if_true, if_false, Nat.reduceEqDiff, Nat.reduceAdd, Nat.reduceLeDiff, Nat.reduceSub, and_self, and_true, true_and, reduceIte, reduceCtorEq, eq_self, implies_true, forall_const, false_implies, imp_self, decide_true, decide_false, t2, t3, t5, t6] at hT
    obtain ⟨t2, t3, t6⟩ := hT
    subst h4
    by_cases hjn : j < b.1.length
    · obtain ⟨_, e5, e6⟩ := need_el ((rSlc rNeed).rdk hb k02) hjn
      have ixb := fun H0 : Heap => slc_idx (r := rNeed) (H1 := H0) (sz := 2) (i := j) (k := .i64) rfl hb hjn
      have fxb := fun (H0 : Heap) (o off : Nat) => slc_fad (r := rNeed) (H1 := H0) (sz := 2) (o := o) (off := off) rfl hb hjn
      have fin : ∀ x : Bool, ndAg (nd a.1 i) (nd b.1 j) = false → ∀ k, k < j + 1 → (!(ndAg (nd a.1 i) (nd b.1 k))) = true := fun x h => upto_succ (f := fun k => !(ndAg (nd a.1 i) (nd b.1 k))) he (by show (!_) = true; rw [h]; rfl)
      simp (maxSteps := 4000000) (disch := omega) only [Zq, evO, vbox, wr, Zeq, if_true, if_false, Nat.reduceEqDiff, Nat.reduceAdd, Nat.reduceLeDiff, Nat.reduceSub, and_self, and_true, true_and, reduceIte, reduceCtorEq, eq_self, implies_true, forall_const, false_implies, imp_self, decide_true, decide_false, fix_nil, fix_cons, g0, g0r, t2, t3, t5, g1, g1r, t6, g2, g2r, t7, lb]
      refine G_calm rfl ?_
      by_cases c1 : (nd a.1 i).1 = (nd b.1 j).1
      · by_cases c2 : (nd a.1 i).2 = (nd b.1 j).2
        · simp (maxSteps := 4000000) (disch := omega) only [Zq, evO, vbox, wr, Zeq, if_true, if_false, Nat.reduceEqDiff, Nat.reduceAdd, Nat.reduceLeDiff, Nat.reduceSub, and_self, and_true, true_and, reduceIte, reduceCtorEq, eq_self, implies_true, forall_const, false_implies, imp_self, decide_true, decide_false, fix_nil, fix_cons, g0, g0r, t2, t3, t5, g1, g1r, t6, g2, g2r, t7, ixa, ixb, fxa, fxb, e3, e4, e5, e6, c1, c2]
          exact ⟨hjn, fin true (by simp [ndAg, c2])⟩
        · simp (maxSteps := 4000000) (disch := omega) only [Zq, evO, vbox, wr, Zeq, if_true, if_false, Nat.reduceEqDiff, Nat.reduceAdd, Nat.reduceLeDiff, Nat.reduceSub, and_self, and_true, true_and, reduceIte, reduceCtorEq, eq_self, implies_true, forall_const, false_implies, imp_self, decide_true, decide_false, fix_nil, fix_cons, g0, g0r, t2, t3, t5, g1, g1r, t6, g2, g2r, t7, ixa, ixb, fxa, fxb, e3, e4, e5, e6, c1]
          exact ⟨k02, by rw [agNo_2 hin hjn (by simp [ndAg, c1, c2])]; rfl⟩
      · simp (maxSteps := 4000000) (disch := omega) only [Zq, evO, vbox, wr, Zeq, if_true, if_false, Nat.reduceEqDiff, Nat.reduceAdd, Nat.reduceLeDiff, Nat.reduceSub, and_self, and_true, true_and, reduceIte, reduceCtorEq, eq_self, implies_true, forall_const, false_implies, imp_self, decide_true, decide_false, fix_nil, fix_cons, g0, g0r, t2, t3, t5, g1, g1r, t6, g2, g2r, t7, ixa, ixb, fxa, fxb, e3, e4, e5, e6]
        exact ⟨hjn, fin true (by simp [ndAg, c1])⟩
    obtain rfl : j = b.1.length := by omega
    simp (maxSteps := 4000000) (disch := omega) only [Zq, evO, vbox, wr, Zeq, if_true, if_false, Nat.reduceEqDiff, Nat.reduceAdd, Nat.reduceLeDiff, Nat.reduceSub, and_self, and_true, true_and, reduceIte, reduceCtorEq, eq_self, implies_true, forall_const, false_implies, imp_self, decide_true, decide_false, fix_nil, fix_cons, g0, g0r, t2, t3, t5, g1, g1r, t6, g2, g2r, t7, lb]
    exact ⟨hin, k2, upto_succ (f := fun j => agOne b.1 (nd a.1 j)) hd (allTo_iff.2 he)⟩
  obtain rfl : i = a.1.length := by omega
  simp (maxSteps := 4000000) (disch := omega) only [Zq, evO, vbox, wr, Zeq, if_true, if_false, Nat.reduceEqDiff, Nat.reduceAdd, Nat.reduceLeDiff, Nat.reduceSub, and_self, and_true, true_and, reduceIte, reduceCtorEq, eq_self, implies_true, forall_const, false_implies, imp_self, decide_true, decide_false, fix_nil, fix_cons, g0, g0r, t2, t3, t5, g1, g1r, t6, g2, g2r, la]
  refine ⟨k02, ?_⟩
  have hB := allTo_iff (f := fun j => agOne b.1 (nd a.1 j)) |>.2 hd
  rw [agNo, hA, hB]
  rfl
end
end Go.Proofs.Ythjphddodooahaa.AX
