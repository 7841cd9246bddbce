/- Tasks and rules that are right; how long a task lasts. No condition beyond each law's own; of the program: the functions' forms. -/
import Derived.Test.YtiajbefljkikiaaRtask
import Derived.Test.YtiajbefljkikiaaBas
namespace Go.Proofs.Ytiajbefljkikiaa.AX
open Go
set_option maxRecDepth 10000
set_option maxHeartbeats 4000000
set_option linter.unusedSimpArgs false
set_option linter.unusedVariables false
abbrev Tk := Int × Int × Int × Int × Int
abbrev Ru := Int × Int × Int × Int
def tkB (t : Tk) : Bool := inR 0 29 t.1 && (inR 0 29 t.2.1 && (inR 0 100000 t.2.2.1 && (inR 0 100000 t.2.2.2.1 && (decide (t.2.2.1 < t.2.2.2.1) && inR 0 2000 t.2.2.2.2))))
def ruB (r : Ru) : Bool := inR 1 1440 r.1 && (inR 1 1440 r.2.1 && (inR 1 1440 r.2.2.1 && inR 1 1440 r.2.2.2))
def tksB (ts : List Tk) : Bool := decide (ts.length ≤ 40) && ts.all tkB
theorem dep_eq {d e : Int} (h : inR 0 100000 e = true) : inR 0 (e - 1) d = (inR 0 100000 d && decide (d < e)) := by
  rw [inR_iff] at h
  rw [Bool.eq_iff_iff, inR_iff, Bool.and_eq_true, inR_iff, decide_eq_true_iff]
  omega
theorem r_impl_isMinute (x : Int) (H : Heap) : Run Try.prog 118 [.int .i64 x] H fun r H' => Keep H H' ∧ r = .bool (inR 0 100000 x) := by
  refine Run.intro c118 rfl ?_
  simp (maxSteps := 4000000) (disch := omega) only [Zq, evO, vbox, wr, Zeq, if_true, if_false, Nat.reduceEqDiff, Nat.reduceAdd, Nat.reduceLeDiff, Nat.reduceSub, and_self, and_true, true_and, reduceIte, reduceCtorEq, eq_self, implies_true, forall_const, false_implies, imp_self, decide_true, decide_false, x118]
  refine GO_call ((r_impl_between x 0 100000 _).mono ?_)
  rintro _ H1 ⟨k1, rfl⟩
  simp (maxSteps := 4000000) (disch := omega) only [Zq, evO, vbox, wr, Zeq, if_true, if_false, Nat.reduceEqDiff, Nat.reduceAdd, Nat.reduceLeDiff, Nat.reduceSub, and_self, and_true, true_and, reduceIte, reduceCtorEq, eq_self, implies_true, forall_const, false_implies, imp_self, decide_true, decide_false, fix_nil, fix_cons]
  exact k1
theorem r_impl_taskOk (a b d e m : Int) (H : Heap) : Run Try.prog 111 [.agg #[.int .i64 a, .int .i64 b, .int .i64 d, .int .i64 e, .int .i64 m]] H fun r H' => Keep H H' ∧ r = .bool (tkB (a, b, d, e, m)) := by
  refine Run.intro c111 rfl ?_
  simp (maxSteps := 4000000) (disch := omega) only [Zq, evO, vbox, wr, Zeq, if_true, if_false, Nat.reduceEqDiff, Nat.reduceAdd, Nat.reduceLeDiff, Nat.reduceSub, and_self, and_true, true_and, reduceIte, reduceCtorEq, eq_self, implies_true, forall_const, false_implies, imp_self, decide_true, decide_false, x111]
  generalize hG0 : H.push [.int .i64 a, .int .i64 b, .int .i64 d, .int .i64 e, .int .i64 m] = H0
  have k0 : Keep H H0 := by rw [← hG0]; exact Keep.push _ _
  have g0 : H0.get H.nxt = some (.own [.int .i64 a, .int .i64 b, .int .i64 d, .int .i64 e, .int .i64 m]) := by rw [← hG0, push_get', if_pos rfl]
  have n0 : H0.nxt = H.nxt + 1 := by rw [← hG0, Zbg]
  refine GO_call ((r_impl_between a 0 29 _).mono ?_)
  rintro _ H1 ⟨k1, rfl⟩
  have n1 := k1.nxt
  have g1 := (k1.get (H.nxt) (by omega)).trans g0
  cases h1 : inR 0 29 a with
  | false =>
    simp (maxSteps := 4000000) (disch := omega) only [Zq, evO, vbox, wr, Zeq, if_true, if_false, Nat.reduceEqDiff, Nat.reduceAdd, Nat.reduceLeDiff, Nat.reduceSub, and_self, and_true, true_and, reduceIte, reduceCtorEq, eq_self, implies_true, forall_const, false_implies, imp_self, decide_true, decide_false, fix_nil, fix_cons, g0, g1]
    exact ⟨by exact k0.trans (k1), by simp [tkB, h1]⟩
  | true =>
  simp (maxSteps := 4000000) (disch := omega) only [Zq, evO, vbox, wr, Zeq, if_true, if_false, Nat.reduceEqDiff, Nat.reduceAdd, Nat.reduceLeDiff, Nat.reduceSub, and_self, and_true, true_and, reduceIte, reduceCtorEq, eq_self, implies_true, forall_const, false_implies, imp_self, decide_true, decide_false, fix_nil, fix_cons, g0, g1]
  refine GO_call ((r_impl_between b 0 29 _).mono ?_)
  rintro _ H2 ⟨k2, rfl⟩
  have n2 := k2.nxt
  have g2 := (k2.get (H.nxt) (by omega)).trans g1
  cases h2 : inR 0 29 b with
  | false =>
    simp (maxSteps := 4000000) (disch := omega) only [Zq, evO, vbox, wr, Zeq, if_true, if_false, Nat.reduceEqDiff, Nat.reduceAdd, Nat.reduceLeDiff, Nat.reduceSub, and_self, and_true, true_and, reduceIte, reduceCtorEq, eq_self, implies_true, forall_const, false_implies, imp_self, decide_true, decide_false, fix_nil, fix_cons, g0, g1, g2]
    exact ⟨by exact k0.trans (k1.trans (k2)), by simp [tkB, h1, h2]⟩
  | true =>
  simp (maxSteps := 4000000) (disch := omega) only [Zq, evO, vbox, wr, Zeq, if_true, if_false, Nat.reduceEqDiff, Nat.reduceAdd, Nat.reduceLeDiff, Nat.reduceSub, and_self, and_true, true_and, reduceIte, reduceCtorEq, eq_self, implies_true, forall_const, false_implies, imp_self, decide_true, decide_false, fix_nil, fix_cons, g0, g1, g2]
  refine GO_call ((r_impl_isMinute d _).mono ?_)
  rintro _ H3 ⟨k3, rfl⟩
  have n3 := k3.nxt
  have g3 := (k3.get (H.nxt) (by omega)).trans g2
  cases h3 : inR 0 100000 d with
  | false =>
    simp (maxSteps := 4000000) (disch := omega) only [Zq, evO, vbox, wr, Zeq, if_true, if_false, Nat.reduceEqDiff, Nat.reduceAdd, Nat.reduceLeDiff, Nat.reduceSub, and_self, and_true, true_and, reduceIte, reduceCtorEq, eq_self, implies_true, forall_const, false_implies, imp_self, decide_true, decide_false, fix_nil, fix_cons, g0, g1, g2, g3]
    exact ⟨by exact k0.trans (k1.trans (k2.trans (k3))), by simp [tkB, h1, h2, h3]⟩
  | true =>
  simp (maxSteps := 4000000) (disch := omega) only [Zq, evO, vbox, wr, Zeq, if_true, if_false, Nat.reduceEqDiff, Nat.reduceAdd, Nat.reduceLeDiff, Nat.reduceSub, and_self, and_true, true_and, reduceIte, reduceCtorEq, eq_self, implies_true, forall_const, false_implies, imp_self, decide_true, decide_false, fix_nil, fix_cons, g0, g1, g2, g3]
  refine GO_call ((r_impl_isMinute e _).mono ?_)
  rintro _ H4 ⟨k4, rfl⟩
  have n4 := k4.nxt
  have g4 := (k4.get (H.nxt) (by omega)).trans g3
  cases h4 : inR 0 100000 e with
  | false =>
    simp (maxSteps := 4000000) (disch := omega) only [Zq, evO, vbox, wr, Zeq, if_true, if_false, Nat.reduceEqDiff, Nat.reduceAdd, Nat.reduceLeDiff, Nat.reduceSub, and_self, and_true, true_and, reduceIte, reduceCtorEq, eq_self, implies_true, forall_const, false_implies, imp_self, decide_true, decide_false, fix_nil, fix_cons, g0, g1, g2, g3, g4]
    exact ⟨by exact k0.trans (k1.trans (k2.trans (k3.trans (k4)))), by simp [tkB, h1, h2, h3, h4]⟩
  | true =>
  simp (maxSteps := 4000000) (disch := omega) only [Zq, evO, vbox, wr, Zeq, if_true, if_false, Nat.reduceEqDiff, Nat.reduceAdd, Nat.reduceLeDiff, Nat.reduceSub, and_self, and_true, true_and, reduceIte, reduceCtorEq, eq_self, implies_true, forall_const, false_implies, imp_self, decide_true, decide_false, fix_nil, fix_cons, g0, g1, g2, g3, g4]
  by_cases h5 : d < e
  rotate_left
  · simp (maxSteps := 4000000) (disch := omega) only [Zq, evO, vbox, wr, Zeq, if_true, if_false, Nat.reduceEqDiff, Nat.reduceAdd, Nat.reduceLeDiff, Nat.reduceSub, and_self, and_true, true_and, reduceIte, reduceCtorEq, eq_self, implies_true, forall_const, false_implies, imp_self, decide_true, decide_false, fix_nil, fix_cons, g0, g1, g2, g3, g4, Zfi h5]
    exact ⟨by exact k0.trans (k1.trans (k2.trans (k3.trans (k4)))), by simp [tkB, h1, h2, h3, h4, h5]⟩
  simp (maxSteps := 4000000) (disch := omega) only [Zq, evO, vbox, wr, Zeq, if_true, if_false, Nat.reduceEqDiff, Nat.reduceAdd, Nat.reduceLeDiff, Nat.reduceSub, and_self, and_true, true_and, reduceIte, reduceCtorEq, eq_self, implies_true, forall_const, false_implies, imp_self, decide_true, decide_false, fix_nil, fix_cons, g0, g1, g2, g3, g4, Zfh h5]
  refine GO_call ((r_impl_between m 0 2000 _).mono ?_)
  rintro _ H5 ⟨k5, rfl⟩
  have n5 := k5.nxt
  have g5 := (k5.get (H.nxt) (by omega)).trans g4
  cases h6 : inR 0 2000 m with
  | false =>
    simp (maxSteps := 4000000) (disch := omega) only [Zq, evO, vbox, wr, Zeq, if_true, if_false, Nat.reduceEqDiff, Nat.reduceAdd, Nat.reduceLeDiff, Nat.reduceSub, and_self, and_true, true_and, reduceIte, reduceCtorEq, eq_self, implies_true, forall_const, false_implies, imp_self, decide_true, decide_false, fix_nil, fix_cons, g0, g1, g2, g3, g4, g5]
    exact ⟨by exact k0.trans (k1.trans (k2.trans (k3.trans (k4.trans (k5))))), by simp [tkB, h1, h2, h3, h4, h5, h6]⟩
  | true =>
  simp (maxSteps := 4000000) (disch := omega) only [Zq, evO, vbox, wr, Zeq, if_true, if_false, Nat.reduceEqDiff, Nat.reduceAdd, Nat.reduceLeDiff, Nat.reduceSub, and_self, and_true, true_and, reduceIte, reduceCtorEq, eq_self, implies_true, forall_const, false_implies, imp_self, decide_true, decide_false, fix_nil, fix_cons, g0, g1, g2, g3, g4, g5]
  exact ⟨by exact k0.trans (k1.trans (k2.trans (k3.trans (k4.trans (k5))))), by simp [tkB, h1, h2, h3, h4, h5, h6]⟩
theorem r_spec_l16Task (a b d e m : Int) (H : Heap) : Run Try.prog 117 [.agg #[.int .i64 a, .int .i64 b, .int .i64 d, .int .i64 e, .int .i64 m]] H fun r H' => Keep H H' ∧ r = .bool (tkB (a, b, d, e, m)) := by
  refine Run.intro c117 rfl ?_
  simp (maxSteps := 4000000) (disch := omega) only [Zq, evO, vbox, wr, Zeq, if_true, if_false, Nat.reduceEqDiff, Nat.reduceAdd, Nat.reduceLeDiff, Nat.reduceSub, and_self, and_true, true_and, reduceIte, reduceCtorEq, eq_self, implies_true, forall_const, false_implies, imp_self, decide_true, decide_false, x117]
  generalize hG0 : H.push [.int .i64 a, .int .i64 b, .int .i64 d, .int .i64 e, .int .i64 m] = H0
  have k0 : Keep H H0 := by rw [← hG0]; exact Keep.push _ _
  have g0 : H0.get H.nxt = some (.own [.int .i64 a, .int .i64 b, .int .i64 d, .int .i64 e, .int .i64 m]) := by rw [← hG0, push_get', if_pos rfl]
  have n0 : H0.nxt = H.nxt + 1 := by rw [← hG0, Zbg]
  refine GO_call ((r_spec_l01In a 0 29 _).mono ?_)
  rintro _ H1 ⟨k1, rfl⟩
  have n1 := k1.nxt
  have g1 := (k1.get (H.nxt) (by omega)).trans g0
  cases h1 : inR 0 29 a with
  | false =>
    simp (maxSteps := 4000000) (disch := omega) only [Zq, evO, vbox, wr, Zeq, if_true, if_false, Nat.reduceEqDiff, Nat.reduceAdd, Nat.reduceLeDiff, Nat.reduceSub, and_self, and_true, true_and, reduceIte, reduceCtorEq, eq_self, implies_true, forall_const, false_implies, imp_self, decide_true, decide_false, fix_nil, fix_cons, g0, g1]
    exact ⟨by exact k0.trans (k1), by simp [tkB, h1]⟩
  | true =>
  simp (maxSteps := 4000000) (disch := omega) only [Zq, evO, vbox, wr, Zeq, if_true, if_false, Nat.reduceEqDiff, Nat.reduceAdd, Nat.reduceLeDiff, Nat.reduceSub, and_self, and_true, true_and, reduceIte, reduceCtorEq, eq_self, implies_true, forall_const, false_implies, imp_self, decide_true, decide_false, fix_nil, fix_cons, g0, g1]
  refine GO_call ((r_spec_l01In b 0 29 _).mono ?_)
  rintro _ H2 ⟨k2, rfl⟩
  have n2 := k2.nxt
  have g2 := (k2.get (H.nxt) (by omega)).trans g1
  cases h2 : inR 0 29 b with
  | false =>
    simp (maxSteps := 4000000) (disch := omega) only [Zq, evO, vbox, wr, Zeq, if_true, if_false, Nat.reduceEqDiff, Nat.reduceAdd, Nat.reduceLeDiff, Nat.reduceSub, and_self, and_true, true_and, reduceIte, reduceCtorEq, eq_self, implies_true, forall_const, false_implies, imp_self, decide_true, decide_false, fix_nil, fix_cons, g0, g1, g2]
    exact ⟨by exact k0.trans (k1.trans (k2)), by simp [tkB, h1, h2]⟩
  | true =>
  simp (maxSteps := 4000000) (disch := omega) only [Zq, evO, vbox, wr, Zeq, if_true, if_false, Nat.reduceEqDiff, Nat.reduceAdd, Nat.reduceLeDiff, Nat.reduceSub, and_self, and_true, true_and, reduceIte, reduceCtorEq, eq_self, implies_true, forall_const, false_implies, imp_self, decide_true, decide_false, fix_nil, fix_cons, g0, g1, g2]
  refine GO_call ((r_spec_l01In e 0 100000 _).mono ?_)
  rintro _ H3 ⟨k3, rfl⟩
  have n3 := k3.nxt
  have g3 := (k3.get (H.nxt) (by omega)).trans g2
  cases h3 : inR 0 100000 e with
  | false =>
    simp (maxSteps := 4000000) (disch := omega) only [Zq, evO, vbox, wr, Zeq, if_true, if_false, Nat.reduceEqDiff, Nat.reduceAdd, Nat.reduceLeDiff, Nat.reduceSub, and_self, and_true, true_and, reduceIte, reduceCtorEq, eq_self, implies_true, forall_const, false_implies, imp_self, decide_true, decide_false, fix_nil, fix_cons, g0, g1, g2, g3]
    exact ⟨by exact k0.trans (k1.trans (k2.trans (k3))), by simp [tkB, h1, h2, h3]⟩
  | true =>
  simp (maxSteps := 4000000) (disch := omega) only [Zq, evO, vbox, wr, Zeq, if_true, if_false, Nat.reduceEqDiff, Nat.reduceAdd, Nat.reduceLeDiff, Nat.reduceSub, and_self, and_true, true_and, reduceIte, reduceCtorEq, eq_self, implies_true, forall_const, false_implies, imp_self, decide_true, decide_false, fix_nil, fix_cons, g0, g1, g2, g3]
  have he := inR_iff.1 h3
  have hw : IntKind.i64.wrap (e - 1) = e - 1 := wrap64 (by omega) (by omega)
  simp (maxSteps := 4000000) (disch := omega) only [Zq, evO, vbox, wr, Zeq, if_true, if_false, Nat.reduceEqDiff, Nat.reduceAdd, Nat.reduceLeDiff, Nat.reduceSub, and_self, and_true, true_and, reduceIte, reduceCtorEq, eq_self, implies_true, forall_const, false_implies, imp_self, decide_true, decide_false, fix_nil, fix_cons, g0, g1, g2, g3, hw]
  have hd := dep_eq (d := d) h3
  refine GO_call ((r_spec_l01In d 0 (e - 1) _).mono ?_)
  rintro _ H4 ⟨k4, rfl⟩
  have n4 := k4.nxt
  have g4 := (k4.get (H.nxt) (by omega)).trans g3
  cases h4 : inR 0 (e - 1) d with
  | false =>
    simp (maxSteps := 4000000) (disch := omega) only [Zq, evO, vbox, wr, Zeq, if_true, if_false, Nat.reduceEqDiff, Nat.reduceAdd, Nat.reduceLeDiff, Nat.reduceSub, and_self, and_true, true_and, reduceIte, reduceCtorEq, eq_self, implies_true, forall_const, false_implies, imp_self, decide_true, decide_false, fix_nil, fix_cons, g0, g1, g2, g3, g4]
    exact ⟨by exact k0.trans (k1.trans (k2.trans (k3.trans (k4)))), by
      have hq := hd.symm.trans h4
      simp at hq
      simp [tkB, h1, h2, h3]
      intro q1 q2
      have := hq q1
      omega⟩
  | true =>
  have hq := hd.symm.trans h4
  simp only [Bool.and_eq_true, decide_eq_true_iff] at hq
  simp (maxSteps := 4000000) (disch := omega) only [Zq, evO, vbox, wr, Zeq, if_true, if_false, Nat.reduceEqDiff, Nat.reduceAdd, Nat.reduceLeDiff, Nat.reduceSub, and_self, and_true, true_and, reduceIte, reduceCtorEq, eq_self, implies_true, forall_const, false_implies, imp_self, decide_true, decide_false, fix_nil, fix_cons, g0, g1, g2, g3, g4]
  refine GO_call ((r_spec_l01In m 0 2000 _).mono ?_)
  rintro _ H5 ⟨k5, rfl⟩
  have n5 := k5.nxt
  have g5 := (k5.get (H.nxt) (by omega)).trans g4
  cases h5 : inR 0 2000 m with
  | false =>
    simp (maxSteps := 4000000) (disch := omega) only [Zq, evO, vbox, wr, Zeq, if_true, if_false, Nat.reduceEqDiff, Nat.reduceAdd, Nat.reduceLeDiff, Nat.reduceSub, and_self, and_true, true_and, reduceIte, reduceCtorEq, eq_self, implies_true, forall_const, false_implies, imp_self, decide_true, decide_false, fix_nil, fix_cons, g0, g1, g2, g3, g4, g5]
    exact ⟨by exact k0.trans (k1.trans (k2.trans (k3.trans (k4.trans (k5))))), by simp [tkB, h1, h2, h3, hq.1, hq.2, h5]⟩
  | true =>
  simp (maxSteps := 4000000) (disch := omega) only [Zq, evO, vbox, wr, Zeq, if_true, if_false, Nat.reduceEqDiff, Nat.reduceAdd, Nat.reduceLeDiff, Nat.reduceSub, and_self, and_true, true_and, reduceIte, reduceCtorEq, eq_self, implies_true, forall_const, false_implies, imp_self, decide_true, decide_false, fix_nil, fix_cons, g0, g1, g2, g3, g4, g5]
  exact ⟨by exact k0.trans (k1.trans (k2.trans (k3.trans (k4.trans (k5))))), by simp [tkB, h1, h2, h3, hq.1, hq.2, h5]⟩
theorem r_impl_RuleOk (a b d e : Int) (H : Heap) : Run Try.prog 95 [.agg #[.int .i64 a, .int .i64 b, .int .i64 d, .int .i64 e]] H fun r H' => Keep H H' ∧ r = .bool (ruB (a, b, d, e)) := by
  refine Run.intro c95 rfl ?_
  simp (maxSteps := 4000000) (disch := omega) only [Zq, evO, vbox, wr, Zeq, if_true, if_false, Nat.reduceEqDiff, Nat.reduceAdd, Nat.reduceLeDiff, Nat.reduceSub, and_self, and_true, true_and, reduceIte, reduceCtorEq, eq_self, implies_true, forall_const, false_implies, imp_self, decide_true, decide_false, x95]
  generalize hG0 : H.push [.int .i64 a, .int .i64 b, .int .i64 d, .int .i64 e] = H0
  have k0 : Keep H H0 := by rw [← hG0]; exact Keep.push _ _
  have g0 : H0.get H.nxt = some (.own [.int .i64 a, .int .i64 b, .int .i64 d, .int .i64 e]) := by rw [← hG0, push_get', if_pos rfl]
  have n0 : H0.nxt = H.nxt + 1 := by rw [← hG0, Zbg]
  refine GO_call ((r_impl_between a 1 1440 _).mono ?_)
  rintro _ H1 ⟨k1, rfl⟩
  have n1 := k1.nxt
  have g1 := (k1.get (H.nxt) (by omega)).trans g0
  cases h1 : inR 1 1440 a with
  | false =>
    simp (maxSteps := 4000000) (disch := omega) only [Zq, evO, vbox, wr, Zeq, if_true, if_false, Nat.reduceEqDiff, Nat.reduceAdd, Nat.reduceLeDiff, Nat.reduceSub, and_self, and_true, true_and, reduceIte, reduceCtorEq, eq_self, implies_true, forall_const, false_implies, imp_self, decide_true, decide_false, fix_nil, fix_cons, g0, g1]
    exact ⟨by exact k0.trans (k1), by simp [ruB, h1]⟩
  | true =>
  simp (maxSteps := 4000000) (disch := omega) only [Zq, evO, vbox, wr, Zeq, if_true, if_false, Nat.reduceEqDiff, Nat.reduceAdd, Nat.reduceLeDiff, Nat.reduceSub, and_self, and_true, true_and, reduceIte, reduceCtorEq, eq_self, implies_true, forall_const, false_implies, imp_self, decide_true, decide_false, fix_nil, fix_cons, g0, g1]
  refine GO_call ((r_impl_between b 1 1440 _).mono ?_)
  rintro _ H2 ⟨k2, rfl⟩
  have n2 := k2.nxt
  have g2 := (k2.get (H.nxt) (by omega)).trans g1
  cases h2 : inR 1 1440 b with
  | false =>
    simp (maxSteps := 4000000) (disch := omega) only [Zq, evO, vbox, wr, Zeq, if_true, if_false, Nat.reduceEqDiff, Nat.reduceAdd, Nat.reduceLeDiff, Nat.reduceSub, and_self, and_true, true_and, reduceIte, reduceCtorEq, eq_self, implies_true, forall_const, false_implies, imp_self, decide_true, decide_false, fix_nil, fix_cons, g0, g1, g2]
    exact ⟨by exact k0.trans (k1.trans (k2)), by simp [ruB, h1, h2]⟩
  | true =>
  simp (maxSteps := 4000000) (disch := omega) only [Zq, evO, vbox, wr, Zeq, if_true, if_false, Nat.reduceEqDiff, Nat.reduceAdd, Nat.reduceLeDiff, Nat.reduceSub, and_self, and_true, true_and, reduceIte, reduceCtorEq, eq_self, implies_true, forall_const, false_implies, imp_self, decide_true, decide_false, fix_nil, fix_cons, g0, g1, g2]
  refine GO_call ((r_impl_between d 1 1440 _).mono ?_)
  rintro _ H3 ⟨k3, rfl⟩
  have n3 := k3.nxt
  have g3 := (k3.get (H.nxt) (by omega)).trans g2
  cases h3 : inR 1 1440 d with
  | false =>
    simp (maxSteps := 4000000) (disch := omega) only [Zq, evO, vbox, wr, Zeq, if_true, if_false, Nat.reduceEqDiff, Nat.reduceAdd, Nat.reduceLeDiff, Nat.reduceSub, and_self, and_true, true_and, reduceIte, reduceCtorEq, eq_self, implies_true, forall_const, false_implies, imp_self, decide_true, decide_false, fix_nil, fix_cons, g0, g1, g2, g3]
    exact ⟨by exact k0.trans (k1.trans (k2.trans (k3))), by simp [ruB, h1, h2, h3]⟩
  | true =>
  simp (maxSteps := 4000000) (disch := omega) only [Zq, evO, vbox, wr, Zeq, if_true, if_false, Nat.reduceEqDiff, Nat.reduceAdd, Nat.reduceLeDiff, Nat.reduceSub, and_self, and_true, true_and, reduceIte, reduceCtorEq, eq_self, implies_true, forall_const, false_implies, imp_self, decide_true, decide_false, fix_nil, fix_cons, g0, g1, g2, g3]
  refine GO_call ((r_impl_between e 1 1440 _).mono ?_)
  rintro _ H4 ⟨k4, rfl⟩
  have n4 := k4.nxt
  have g4 := (k4.get (H.nxt) (by omega)).trans g3
  cases h4 : inR 1 1440 e with
  | false =>
    simp (maxSteps := 4000000) (disch := omega) only [Zq, evO, vbox, wr, Zeq, if_true, if_false, Nat.reduceEqDiff, Nat.reduceAdd, Nat.reduceLeDiff, Nat.reduceSub, and_self, and_true, true_and, reduceIte, reduceCtorEq, eq_self, implies_true, forall_const, false_implies, imp_self, decide_true, decide_false, fix_nil, fix_cons, g0, g1, g2, g3, g4]
    exact ⟨by exact k0.trans (k1.trans (k2.trans (k3.trans (k4)))), by simp [ruB, h1, h2, h3, h4]⟩
  | true =>
  simp (maxSteps := 4000000) (disch := omega) only [Zq, evO, vbox, wr, Zeq, if_true, if_false, Nat.reduceEqDiff, Nat.reduceAdd, Nat.reduceLeDiff, Nat.reduceSub, and_self, and_true, true_and, reduceIte, reduceCtorEq, eq_self, implies_true, forall_const, false_implies, imp_self, decide_true, decide_false, fix_nil, fix_cons, g0, g1, g2, g3, g4]
  exact ⟨by exact k0.trans (k1.trans (k2.trans (k3.trans (k4)))), by simp [ruB, h1, h2, h3, h4]⟩
theorem r_spec_RuleOk (a b d e : Int) (H : Heap) : Run Try.prog 90 [.agg #[.int .i64 a, .int .i64 b, .int .i64 d, .int .i64 e]] H fun r H' => Keep H H' ∧ r = .bool (ruB (a, b, d, e)) := by
  refine Run.intro c90 rfl ?_
  simp (maxSteps := 4000000) (disch := omega) only [Zq, evO, vbox, wr, Zeq, if_true, if_false, Nat.reduceEqDiff, Nat.reduceAdd, Nat.reduceLeDiff, Nat.reduceSub, and_self, and_true, true_and, reduceIte, reduceCtorEq, eq_self, implies_true, forall_const, false_implies, imp_self, decide_true, decide_false, x90]
  generalize hG0 : H.push [.int .i64 a, .int .i64 b, .int .i64 d, .int .i64 e] = H0
  have k0 : Keep H H0 := by rw [← hG0]; exact Keep.push _ _
  have g0 : H0.get H.nxt = some (.own [.int .i64 a, .int .i64 b, .int .i64 d, .int .i64 e]) := by rw [← hG0, push_get', if_pos rfl]
  have n0 : H0.nxt = H.nxt + 1 := by rw [← hG0, Zbg]
  refine GO_call ((r_spec_l01In a 1 1440 _).mono ?_)
  rintro _ H1 ⟨k1, rfl⟩
  have n1 := k1.nxt
  have g1 := (k1.get (H.nxt) (by omega)).trans g0
  cases h1 : inR 1 1440 a with
  | false =>
    simp (maxSteps := 4000000) (disch := omega) only [Zq, evO, vbox, wr, Zeq, if_true, if_false, Nat.reduceEqDiff, Nat.reduceAdd, Nat.reduceLeDiff, Nat.reduceSub, and_self, and_true, true_and, reduceIte, reduceCtorEq, eq_self, implies_true, forall_const, false_implies, imp_self, decide_true, decide_false, fix_nil, fix_cons, g0, g1]
    exact ⟨by exact k0.trans (k1), by simp [ruB, h1]⟩
  | true =>
  simp (maxSteps := 4000000) (disch := omega) only [Zq, evO, vbox, wr, Zeq, if_true, if_false, Nat.reduceEqDiff, Nat.reduceAdd, Nat.reduceLeDiff, Nat.reduceSub, and_self, and_true, true_and, reduceIte, reduceCtorEq, eq_self, implies_true, forall_const, false_implies, imp_self, decide_true, decide_false, fix_nil, fix_cons, g0, g1]
  refine GO_call ((r_spec_l01In b 1 1440 _).mono ?_)
  rintro _ H2 ⟨k2, rfl⟩
  have n2 := k2.nxt
  have g2 := (k2.get (H.nxt) (by omega)).trans g1
  cases h2 : inR 1 1440 b with
  | false =>
    simp (maxSteps := 4000000) (disch := omega) only [Zq, evO, vbox, wr, Zeq, if_true, if_false, Nat.reduceEqDiff, Nat.reduceAdd, Nat.reduceLeDiff, Nat.reduceSub, and_self, and_true, true_and, reduceIte, reduceCtorEq, eq_self, implies_true, forall_const, false_implies, imp_self, decide_true, decide_false, fix_nil, fix_cons, g0, g1, g2]
    exact ⟨by exact k0.trans (k1.trans (k2)), by simp [ruB, h1, h2]⟩
  | true =>
  simp (maxSteps := 4000000) (disch := omega) only [Zq, evO, vbox, wr, Zeq, if_true, if_false, Nat.reduceEqDiff, Nat.reduceAdd, Nat.reduceLeDiff, Nat.reduceSub, and_self, and_true, true_and, reduceIte, reduceCtorEq, eq_self, implies_true, forall_const, false_implies, imp_self, decide_true, decide_false, fix_nil, fix_cons, g0, g1, g2]
  refine GO_call ((r_spec_l01In d 1 1440 _).mono ?_)
  rintro _ H3 ⟨k3, rfl⟩
  have n3 := k3.nxt
  have g3 := (k3.get (H.nxt) (by omega)).trans g2
  cases h3 : inR 1 1440 d with
  | false =>
    simp (maxSteps := 4000000) (disch := omega) only [Zq, evO, vbox, wr, Zeq, if_true, if_false, Nat.reduceEqDiff, Nat.reduceAdd, Nat.reduceLeDiff, Nat.reduceSub, and_self, and_true, true_and, reduceIte, reduceCtorEq, eq_self, implies_true, forall_const, false_implies, imp_self, decide_true, decide_false, fix_nil, fix_cons, g0, g1, g2, g3]
    exact ⟨by exact k0.trans (k1.trans (k2.trans (k3))), by simp [ruB, h1, h2, h3]⟩
  | true =>
  simp (maxSteps := 4000000) (disch := omega) only [Zq, evO, vbox, wr, Zeq, if_true, if_false, Nat.reduceEqDiff, Nat.reduceAdd, Nat.reduceLeDiff, Nat.reduceSub, and_self, and_true, true_and, reduceIte, reduceCtorEq, eq_self, implies_true, forall_const, false_implies, imp_self, decide_true, decide_false, fix_nil, fix_cons, g0, g1, g2, g3]
  refine GO_call ((r_spec_l01In e 1 1440 _).mono ?_)
  rintro _ H4 ⟨k4, rfl⟩
  have n4 := k4.nxt
  have g4 := (k4.get (H.nxt) (by omega)).trans g3
  cases h4 : inR 1 1440 e with
  | false =>
    simp (maxSteps := 4000000) (disch := omega) only [Zq, evO, vbox, wr, Zeq, if_true, if_false, Nat.reduceEqDiff, Nat.reduceAdd, Nat.reduceLeDiff, Nat.reduceSub, and_self, and_true, true_and, reduceIte, reduceCtorEq, eq_self, implies_true, forall_const, false_implies, imp_self, decide_true, decide_false, fix_nil, fix_cons, g0, g1, g2, g3, g4]
    exact ⟨by exact k0.trans (k1.trans (k2.trans (k3.trans (k4)))), by simp [ruB, h1, h2, h3, h4]⟩
  | true =>
  simp (maxSteps := 4000000) (disch := omega) only [Zq, evO, vbox, wr, Zeq, if_true, if_false, Nat.reduceEqDiff, Nat.reduceAdd, Nat.reduceLeDiff, Nat.reduceSub, and_self, and_true, true_and, reduceIte, reduceCtorEq, eq_self, implies_true, forall_const, false_implies, imp_self, decide_true, decide_false, fix_nil, fix_cons, g0, g1, g2, g3, g4]
  exact ⟨by exact k0.trans (k1.trans (k2.trans (k3.trans (k4)))), by simp [ruB, h1, h2, h3, h4]⟩
theorem r_impl_lasts (a b d e m : Int) (H : Heap) (h : inR 0 100000 d = true) (h' : inR 0 100000 e = true) : Run Try.prog 119 [.agg #[.int .i64 a, .int .i64 b, .int .i64 d, .int .i64 e, .int .i64 m]] H fun r H' => Keep H H' ∧ r = .int .i64 (e - d) := by
  have h1 := inR_iff.1 h
  have h2 := inR_iff.1 h'
  have hw : IntKind.i64.wrap (e - d) = e - d := wrap64 (by omega) (by omega)
  refine Run.intro c119 rfl ?_
  simp (maxSteps := 4000000) (disch := omega) only [Zq, evO, vbox, wr, Zeq, if_true, if_false, Nat.reduceEqDiff, Nat.reduceAdd, Nat.reduceLeDiff, Nat.reduceSub, and_self, and_true, true_and, reduceIte, reduceCtorEq, eq_self, implies_true, forall_const, false_implies, imp_self, decide_true, decide_false, x119]
  generalize hG0 : H.push [.int .i64 a, .int .i64 b, .int .i64 d, .int .i64 e, .int .i64 m] = H0
  have k0 : Keep H H0 := by rw [← hG0]; exact Keep.push _ _
  have g0 : H0.get H.nxt = some (.own [.int .i64 a, .int .i64 b, .int .i64 d, .int .i64 e, .int .i64 m]) := by rw [← hG0, push_get', if_pos rfl]
  have n0 : H0.nxt = H.nxt + 1 := by rw [← hG0, Zbg]
  simp (maxSteps := 4000000) (disch := omega) only [Zq, evO, vbox, wr, Zeq, if_true, if_false, Nat.reduceEqDiff, Nat.reduceAdd, Nat.reduceLeDiff, Nat.reduceSub, and_self, and_true, true_and, reduceIte, reduceCtorEq, eq_self, implies_true, forall_const, false_implies, imp_self, decide_true, decide_false, fix_nil, fix_cons, g0, hw]
  exact k0
theorem all_succ' {α : Type} {f : α → Bool} {ts : List α} {i : Nat} (h : i < ts.length) (ha : (ts.take i).all f = true) (hx : f ts[i] = true) : (ts.take (i + 1)).all f = true := by
  rw [List.take_add_one, List.getElem?_eq_getElem h, List.all_append, ha]
  simp [hx]
theorem all_bad' {α : Type} {f : α → Bool} {ts : List α} {i : Nat} (h : i < ts.length) (hx : f ts[i] = false) : ts.all f = false := by
  rw [List.all_eq_false]
  exact ⟨_, List.getElem_mem h, by rw [hx]; simp⟩
theorem task_el {H : Heap} {v : Value} {ts : List Tk} {i : Nat} (h : (rSlc rTask).rd H [v] ts) (hi : i < ts.length) : vldN H 5 (adr v i 5 0) = some (.agg #[.int .i64 ts[i].1, .int .i64 ts[i].2.1, .int .i64 ts[i].2.2.1, .int .i64 ts[i].2.2.2.1, .int .i64 ts[i].2.2.2.2], H) ∧ vld1 H (adr v i 5 2) = some (.int .i64 ts[i].2.2.1, H) ∧ vld1 H (adr v i 5 3) = some (.int .i64 ts[i].2.2.2.1, H) := by
  obtain ⟨row, h1, _, h2, h3⟩ := slc_el (sz := 5) rfl (by omega) h hi
  have e : row = taskC ts[i] := h1
  subst e
  exact ⟨h2, h3 2 _ rfl, h3 3 _ rfl⟩
theorem r_impl_TasksOk {H : Heap} {v : Value} {ts : List Tk} (h : (rSlc rTask).rd H [v] ts) (hl : ts.length ≤ 1048576) : Run Try.prog 93 [v] H fun r H' => Keep H H' ∧ r = .bool (tksB ts) := by
  have lv : ∀ H : Heap, vlen H v = some (.int .i64 ts.length, H) := fun _ => slc_len h
  by_cases h40 : (40 : Int) < ts.length
  · refine Run.intro c93 rfl ?_
    simp (maxSteps := 4000000) (disch := omega) only [Zq, evO, vbox, wr, Zeq, if_true, if_false, Nat.reduceEqDiff, Nat.reduceAdd, Nat.reduceLeDiff, Nat.reduceSub, and_self, and_true, true_and, reduceIte, reduceCtorEq, eq_self, implies_true, forall_const, false_implies, imp_self, decide_true, decide_false, x93, lv, Zfh h40]
    exact ⟨Keep.refl _, by simp [tksB]; intro; omega⟩
  refine Run.intro c93 rfl ?_
  simp (maxSteps := 4000000) (disch := omega) only [Zq, evO, vbox, wr, Zeq, if_true, if_false, Nat.reduceEqDiff, Nat.reduceAdd, Nat.reduceLeDiff, Nat.reduceSub, and_self, and_true, true_and, reduceIte, reduceCtorEq, eq_self, implies_true, forall_const, false_implies, imp_self, decide_true, decide_false, x93, lv, Zfi h40]
  refine G_forF [8, 9] (ts.length) (fun i T H1 => T 10 = .int .i64 (i : Int) ∧ Keep H H1 ∧ (ts.take i).all tkB = true) 0 (Nat.zero_le _) ?_ ?_
  · simp (maxSteps := 4000000) (disch := omega) only [Zq, evO, vbox, wr, Zeq, if_true, if_false, Nat.reduceEqDiff, Nat.reduceAdd, Nat.reduceLeDiff, Nat.reduceSub, and_self, and_true, true_and, reduceIte, reduceCtorEq, eq_self, implies_true, forall_const, false_implies, imp_self, decide_true, decide_false, fix_nil, fix_cons]
    exact ⟨Keep.refl _, rfl⟩
  rintro i T H1 hi hT ⟨t10, k1, ha⟩
  simp only [fix_nil, fix_cons, Zq, evO, vbox, wr, Zeq, if_true, if_false, Nat.reduceEqDiff, Nat.reduceAdd, Nat.reduceLeDiff, Nat.reduceSub, and_self, and_true, true_and, reduceIte, reduceCtorEq, eq_self, implies_true, forall_const, false_implies, imp_self, decide_true, decide_false] at hT
  obtain ⟨t8, t9⟩ := hT
  by_cases hin : i < ts.length
  · obtain ⟨e1, _, _⟩ := task_el ((rSlc rTask).rdk h k1) hin
    have ix := fun H0 : Heap => slc_idx (r := rTask) (H1 := H0) (sz := 5) (i := i) (k := .i64) rfl h hin
    simp (maxSteps := 4000000) (disch := omega) only [Zq, evO, vbox, wr, Zeq, if_true, if_false, Nat.reduceEqDiff, Nat.reduceAdd, Nat.reduceLeDiff, Nat.reduceSub, and_self, and_true, true_and, reduceIte, reduceCtorEq, eq_self, implies_true, forall_const, false_implies, imp_self, decide_true, decide_false, fix_nil, fix_cons, t8, t9, t10, ix, e1]
    generalize hG2 : (H1.push [.int .i64 0, .int .i64 0, .int .i64 0, .int .i64 0, .int .i64 0]).set H1.nxt [.int .i64 ts[i].1, .int .i64 ts[i].2.1, .int .i64 ts[i].2.2.1, .int .i64 ts[i].2.2.2.1, .int .i64 ts[i].2.2.2.2] = H2
    have k2 : Keep H1 H2 := by rw [← hG2]; repeat' (first | exact Keep.refl _ | assumption | refine Keep.push' ?_ | refine Keep.set' ?_ ?_ | refine Keep.moved' ?_ ?_ | omega)
    have g2 : H2.get H1.nxt = some (.own [.int .i64 ts[i].1, .int .i64 ts[i].2.1, .int .i64 ts[i].2.2.1, .int .i64 ts[i].2.2.2.1, .int .i64 ts[i].2.2.2.2]) := by rw [← hG2, Zbi, if_pos rfl]
    have n2 : H2.nxt = H1.nxt + 1 := by rw [← hG2, Zbh, Zbg]
    refine GO_call ((r_impl_taskOk ts[i].1 ts[i].2.1 ts[i].2.2.1 ts[i].2.2.2.1 ts[i].2.2.2.2 _).mono ?_)
    rintro _ H3 ⟨k3, rfl⟩
    have n3 := k3.nxt
    have k13 := k1.trans (k2.trans k3)
    cases hb : tkB ts[i] with
    | false =>
      simp (maxSteps := 4000000) (disch := omega) only [Zq, evO, vbox, wr, Zeq, if_true, if_false, Nat.reduceEqDiff, Nat.reduceAdd, Nat.reduceLeDiff, Nat.reduceSub, and_self, and_true, true_and, reduceIte, reduceCtorEq, eq_self, implies_true, forall_const, false_implies, imp_self, decide_true, decide_false, fix_nil, fix_cons, t8, t9, t10, g2, hb]
      exact ⟨k13, by simp [tksB, all_bad' hin hb]⟩
    | true =>
      simp (maxSteps := 4000000) (disch := omega) only [Zq, evO, vbox, wr, Zeq, if_true, if_false, Nat.reduceEqDiff, Nat.reduceAdd, Nat.reduceLeDiff, Nat.reduceSub, and_self, and_true, true_and, reduceIte, reduceCtorEq, eq_self, implies_true, forall_const, false_implies, imp_self, decide_true, decide_false, fix_nil, fix_cons, t8, t9, t10, g2, hb]
      exact ⟨hin, k13, all_succ' hin ha hb⟩
  · obtain rfl : i = ts.length := by omega
    rw [List.take_length] at ha
    simp (maxSteps := 4000000) (disch := omega) only [Zq, evO, vbox, wr, Zeq, if_true, if_false, Nat.reduceEqDiff, Nat.reduceAdd, Nat.reduceLeDiff, Nat.reduceSub, and_self, and_true, true_and, reduceIte, reduceCtorEq, eq_self, implies_true, forall_const, false_implies, imp_self, decide_true, decide_false, fix_nil, fix_cons, t8, t9, t10]
    exact ⟨k1, by simp [tksB, ha]; omega⟩
theorem r_spec_TasksOk {H : Heap} {v : Value} {ts : List Tk} (h : (rSlc rTask).rd H [v] ts) (hl : ts.length ≤ 1048576) : Run Try.prog 107 [v] H fun r H' => Keep H H' ∧ r = .bool (tksB ts) := by
  have lv : ∀ H : Heap, vlen H v = some (.int .i64 ts.length, H) := fun _ => slc_len h
  refine Run.intro c107 rfl ?_
  simp (maxSteps := 4000000) (disch := omega) only [Zq, evO, vbox, wr, Zeq, if_true, if_false, Nat.reduceEqDiff, Nat.reduceAdd, Nat.reduceLeDiff, Nat.reduceSub, and_self, and_true, true_and, reduceIte, reduceCtorEq, eq_self, implies_true, forall_const, false_implies, imp_self, decide_true, decide_false, x107]
  refine G_forF [0] (ts.length) (fun i T H1 => T 3 = .int .i64 (i : Int) ∧ Keep H H1 ∧ (ts.take i).all tkB = true) 0 (Nat.zero_le _) ?_ ?_
  · simp (maxSteps := 4000000) (disch := omega) only [Zq, evO, vbox, wr, Zeq, if_true, if_false, Nat.reduceEqDiff, Nat.reduceAdd, Nat.reduceLeDiff, Nat.reduceSub, and_self, and_true, true_and, reduceIte, reduceCtorEq, eq_self, implies_true, forall_const, false_implies, imp_self, decide_true, decide_false, fix_nil, fix_cons]
    exact ⟨Keep.refl _, rfl⟩
  rintro i T H1 hi hT ⟨t3, k1, ha⟩
  simp only [fix_nil, fix_cons, Zq, evO, vbox, wr, Zeq, if_true, if_false, Nat.reduceEqDiff, Nat.reduceAdd, Nat.reduceLeDiff, Nat.reduceSub, and_self, and_true, true_and, reduceIte, reduceCtorEq, eq_self, implies_true, forall_const, false_implies, imp_self, decide_true, decide_false] at hT
  have t0 := hT
  by_cases hin : i < ts.length
  · obtain ⟨e1, _, _⟩ := task_el ((rSlc rTask).rdk h k1) hin
    have ix := fun H0 : Heap => slc_idx (r := rTask) (H1 := H0) (sz := 5) (i := i) (k := .i64) rfl h hin
    simp (maxSteps := 4000000) (disch := omega) only [Zq, evO, vbox, wr, Zeq, if_true, if_false, Nat.reduceEqDiff, Nat.reduceAdd, Nat.reduceLeDiff, Nat.reduceSub, and_self, and_true, true_and, reduceIte, reduceCtorEq, eq_self, implies_true, forall_const, false_implies, imp_self, decide_true, decide_false, fix_nil, fix_cons, t0, t3, lv, ix, e1]
    refine GO_call ((r_spec_l16Task ts[i].1 ts[i].2.1 ts[i].2.2.1 ts[i].2.2.2.1 ts[i].2.2.2.2 _).mono ?_)
    rintro _ H3 ⟨k3, rfl⟩
    have n3 := k3.nxt
    have k13 := k1.trans k3
    cases hb : tkB ts[i] with
    | false =>
      simp (maxSteps := 4000000) (disch := omega) only [Zq, evO, vbox, wr, Zeq, if_true, if_false, Nat.reduceEqDiff, Nat.reduceAdd, Nat.reduceLeDiff, Nat.reduceSub, and_self, and_true, true_and, reduceIte, reduceCtorEq, eq_self, implies_true, forall_const, false_implies, imp_self, decide_true, decide_false, fix_nil, fix_cons, t0, t3, hb]
      exact ⟨k13, by simp [tksB, all_bad' hin hb]⟩
    | true =>
      simp (maxSteps := 4000000) (disch := omega) only [Zq, evO, vbox, wr, Zeq, if_true, if_false, Nat.reduceEqDiff, Nat.reduceAdd, Nat.reduceLeDiff, Nat.reduceSub, and_self, and_true, true_and, reduceIte, reduceCtorEq, eq_self, implies_true, forall_const, false_implies, imp_self, decide_true, decide_false, fix_nil, fix_cons, t0, t3, hb]
      exact ⟨hin, k13, all_succ' hin ha hb⟩
  · obtain rfl : i = ts.length := by omega
    rw [List.take_length] at ha
    simp (maxSteps := 4000000) (disch := omega) only [Zq, evO, vbox, wr, Zeq, if_true, if_false, Nat.reduceEqDiff, Nat.reduceAdd, Nat.reduceLeDiff, Nat.reduceSub, and_self, and_true, true_and, reduceIte, reduceCtorEq, eq_self, implies_true, forall_const, false_implies, imp_self, decide_true, decide_false, fix_nil, fix_cons, t0, t3, lv]
    exact ⟨k1, by simp [tksB, ha]; omega⟩
end Go.Proofs.Ytiajbefljkikiaa.AX
