/- Trips that are right, by the reference; timetables. No condition beyond each law's own; of the program: the functions' forms. -/
import Derived.Test.YtjjglonmaajjoaaNtb
namespace Go.Proofs.Ytjjglonmaajjoaa.AX
open Go
set_option maxRecDepth 10000
set_option maxHeartbeats 4000000
set_option linter.unusedSimpArgs false
set_option linter.unusedVariables false
section
variable {H : Heap} {v : Value} {t : Tp}
theorem r_spec_TripOk (hc : (rSlc rCall).rd H [v] t.2) (hs : t.1.size ≤ 1048576) (hl : t.2.length ≤ 1048576) : Run Try.prog 114 [.agg #[.string t.1, v]] H fun r H' => Keep H H' ∧ r = .bool (tpOk t) := by
  have lv : ∀ H : Heap, vlen H v = some (.int .i64 t.2.length, H) := fun _ => slc_len hc
  refine Run.intro c114 rfl ?_
  simp (maxSteps := 4000000) (disch := omega) only [Zq, evO, vbox, wr, Zeq, if_true, if_false, Nat.reduceEqDiff, Nat.reduceAdd, Nat.reduceLeDiff, Nat.reduceSub, and_self, and_true, true_and, reduceIte, reduceCtorEq, eq_self, implies_true, forall_const, false_implies, imp_self, decide_true, decide_false, x114]
  generalize hG0 : H.push [.string t.1, v] = H0
  have k0 : Keep H H0 := by rw [← hG0]; exact Keep.push _ _
  have g0 : H0.get H.nxt = some (.own [.string t.1, v]) := by rw [← hG0, push_get', if_pos rfl]
  have n0 : H0.nxt = H.nxt + 1 := by rw [← hG0, Zbg]
  refine GO_call ((r_spec_l01Name hs).mono ?_)
  rintro _ H1 ⟨k1, rfl⟩
  have n1 := k1.nxt
  have g1 := (k1.get (H.nxt) (by omega)).trans g0
  have k01 := k0.trans k1
  cases c0 : nmOk t.1 with
  | false =>
    simp (maxSteps := 4000000) (disch := omega) only [Zq, evO, vbox, wr, Zeq, if_true, if_false, Nat.reduceEqDiff, Nat.reduceAdd, Nat.reduceLeDiff, Nat.reduceSub, and_self, and_true, true_and, reduceIte, reduceCtorEq, eq_self, implies_true, forall_const, false_implies, imp_self, decide_true, decide_false, fix_nil, fix_cons, g0, g1, c0]
    exact ⟨k01, by rw [tpOk, c0]; rfl⟩
  | true =>
  simp (maxSteps := 4000000) (disch := omega) only [Zq, evO, vbox, wr, Zeq, if_true, if_false, Nat.reduceEqDiff, Nat.reduceAdd, Nat.reduceLeDiff, Nat.reduceSub, and_self, and_true, true_and, reduceIte, reduceCtorEq, eq_self, implies_true, forall_const, false_implies, imp_self, decide_true, decide_false, fix_nil, fix_cons, g0, g1, c0, lv]
  refine GO_call ((r_spec_l01In (t.2.length : Int) 2 12 _).mono ?_)
  rintro _ H2 ⟨k2, rfl⟩
  have n2 := k2.nxt
  have g2 := (k2.get (H.nxt) (by omega)).trans g1
  have k02 := k01.trans k2
  cases c1 : inR 2 12 t.2.length with
  | false =>
    simp (maxSteps := 4000000) (disch := omega) only [Zq, evO, vbox, wr, Zeq, if_true, if_false, Nat.reduceEqDiff, Nat.reduceAdd, Nat.reduceLeDiff, Nat.reduceSub, and_self, and_true, true_and, reduceIte, reduceCtorEq, eq_self, implies_true, forall_const, false_implies, imp_self, decide_true, decide_false, fix_nil, fix_cons, g0, g1, g2, c1]
    exact ⟨k02, by rw [tpOk, c0, c1]; rfl⟩
  | true =>
  have l12 := inR_iff.1 c1
  simp (maxSteps := 4000000) (disch := omega) only [Zq, evO, vbox, wr, Zeq, if_true, if_false, Nat.reduceEqDiff, Nat.reduceAdd, Nat.reduceLeDiff, Nat.reduceSub, and_self, and_true, true_and, reduceIte, reduceCtorEq, eq_self, implies_true, forall_const, false_implies, imp_self, decide_true, decide_false, fix_nil, fix_cons, g0, g1, g2, c1, lv]
  refine G_forF [1] (t.2.length) (fun i T H3 => T 3 = .int .i64 (i : Int) ∧ Keep H2 H3 ∧ ∀ j, j < i → clOk t.2 j = true) 0 (Nat.zero_le _) ?_ ?_
  · simp (maxSteps := 4000000) (disch := omega) only [Zq, evO, vbox, wr, Zeq, if_true, if_false, Nat.reduceEqDiff, Nat.reduceAdd, Nat.reduceLeDiff, Nat.reduceSub, and_self, and_true, true_and, reduceIte, reduceCtorEq, eq_self, implies_true, forall_const, false_implies, imp_self, decide_true, decide_false, fix_nil, fix_cons, g0, g1, g2]
    exact ⟨Keep.refl _, fun j hj => by omega⟩
  rintro i T H3 hi hT ⟨t3, k3, ha⟩
  simp only [fix_nil, fix_cons, Zq, evO, vbox, wr, Zeq, if_true, if_false, Nat.reduceEqDiff, Nat.reduceAdd, Nat.reduceLeDiff, Nat.reduceSub, and_self, and_true, true_and, reduceIte, reduceCtorEq, eq_self, implies_true, forall_const, false_implies, imp_self, decide_true, decide_false] at hT
  have t1 := hT
  have n3 := k3.nxt
  have g3 := (k3.get H.nxt (by omega)).trans g2
  have k03 := k02.trans k3
  by_cases hin : i < t.2.length
  rotate_left
  · obtain rfl : i = t.2.length := by omega
    simp (maxSteps := 4000000) (disch := omega) only [Zq, evO, vbox, wr, Zeq, if_true, if_false, Nat.reduceEqDiff, Nat.reduceAdd, Nat.reduceLeDiff, Nat.reduceSub, and_self, and_true, true_and, reduceIte, reduceCtorEq, eq_self, implies_true, forall_const, false_implies, imp_self, decide_true, decide_false, fix_nil, fix_cons, g0, g1, g2, t1, t3, g3, lv]
    exact ⟨k03, by rw [tpOk, c0, c1, allTo_iff.2 ha]; rfl⟩
  have ixe := fun H0 : Heap => slc_idx (r := rCall) (H1 := H0) (sz := 3) (i := i) (k := .i64) rfl hc hin
  have e1 := (call_el ((rSlc rCall).rdk hc k03) hin).1
  generalize hx : cl t.2 i = x at e1
  simp (maxSteps := 4000000) (disch := omega) only [Zq, evO, vbox, wr, Zeq, if_true, if_false, Nat.reduceEqDiff, Nat.reduceAdd, Nat.reduceLeDiff, Nat.reduceSub, and_self, and_true, true_and, reduceIte, reduceCtorEq, eq_self, implies_true, forall_const, false_implies, imp_self, decide_true, decide_false, fix_nil, fix_cons, g0, g1, g2, t1, t3, g3, ixe, e1, lv]
  generalize hG4 : (H3.push [.int .i64 0, .int .i64 0, .int .i64 0]).set H3.nxt [.int .i64 x.1, .int .i64 x.2.1, .int .i64 x.2.2] = H4
  have k4 : Keep H3 H4 := by rw [← hG4]; repeat' (first | exact Keep.refl _ | assumption | refine Keep.push' ?_ | refine Keep.set' ?_ ?_ | refine Keep.moved' ?_ ?_ | omega)
  have g4 : H4.get H3.nxt = some (.own [.int .i64 x.1, .int .i64 x.2.1, .int .i64 x.2.2]) := by rw [← hG4, Zbi, if_pos rfl]
  have n4 : H4.nxt = H3.nxt + 1 := by rw [← hG4, Zbh, Zbg]
  have g4n := (k4.get H.nxt (by omega)).trans g3
  have bad : ∀ {b : Bool}, clOk t.2 i = b → b = false → tpOk t = false := fun h e => tpOk_bad hin (h.trans e)
  have hcl : clOk t.2 i = (inR 0 29 x.1 && (inR 0 100000 x.2.2 && (inR 0 x.2.2 x.2.1 && !(decide (0 < i) && clB t.2 i)))) := by rw [clOk, hx]
  refine GO_call ((r_spec_l01In x.1 0 29 _).mono ?_)
  rintro _ H5 ⟨k5, rfl⟩
  have n5 := k5.nxt
  have g5 := (k5.get (H3.nxt) (by omega)).trans g4
  have g5n := (k5.get (H.nxt) (by omega)).trans g4n
  have k35 := k4.trans k5
  have k05 := k03.trans k35
  cases c2 : inR 0 29 x.1 with
  | false =>
    simp (maxSteps := 4000000) (disch := omega) only [Zq, evO, vbox, wr, Zeq, if_true, if_false, Nat.reduceEqDiff, Nat.reduceAdd, Nat.reduceLeDiff, Nat.reduceSub, and_self, and_true, true_and, reduceIte, reduceCtorEq, eq_self, implies_true, forall_const, false_implies, imp_self, decide_true, decide_false, fix_nil, fix_cons, g0, g1, g2, t1, t3, g3, g4, g4n, g5, g5n, c2]
    exact ⟨k05, by rw [bad hcl (by rw [c2]; rfl)]⟩
  | true =>
  simp (maxSteps := 4000000) (disch := omega) only [Zq, evO, vbox, wr, Zeq, if_true, if_false, Nat.reduceEqDiff, Nat.reduceAdd, Nat.reduceLeDiff, Nat.reduceSub, and_self, and_true, true_and, reduceIte, reduceCtorEq, eq_self, implies_true, forall_const, false_implies, imp_self, decide_true, decide_false, fix_nil, fix_cons, g0, g1, g2, t1, t3, g3, g4, g4n, g5, g5n, c2]
  refine GO_call ((r_spec_l01In x.2.2 0 100000 _).mono ?_)
  rintro _ H6 ⟨k6, rfl⟩
  have n6 := k6.nxt
  have g6 := (k6.get (H3.nxt) (by omega)).trans g5
  have g6n := (k6.get (H.nxt) (by omega)).trans g5n
  have k06 := k05.trans k6
  cases c4 : inR 0 100000 x.2.2 with
  | false =>
    simp (maxSteps := 4000000) (disch := omega) only [Zq, evO, vbox, wr, Zeq, if_true, if_false, Nat.reduceEqDiff, Nat.reduceAdd, Nat.reduceLeDiff, Nat.reduceSub, and_self, and_true, true_and, reduceIte, reduceCtorEq, eq_self, implies_true, forall_const, false_implies, imp_self, decide_true, decide_false, fix_nil, fix_cons, g0, g1, g2, t1, t3, g3, g4, g4n, g5, g5n, g6, g6n, c4]
    exact ⟨k06, by rw [bad hcl (by rw [c4]; simp)]⟩
  | true =>
  simp (maxSteps := 4000000) (disch := omega) only [Zq, evO, vbox, wr, Zeq, if_true, if_false, Nat.reduceEqDiff, Nat.reduceAdd, Nat.reduceLeDiff, Nat.reduceSub, and_self, and_true, true_and, reduceIte, reduceCtorEq, eq_self, implies_true, forall_const, false_implies, imp_self, decide_true, decide_false, fix_nil, fix_cons, g0, g1, g2, t1, t3, g3, g4, g4n, g5, g5n, g6, g6n, c4]
  refine GO_call ((r_spec_l01In x.2.1 0 x.2.2 _).mono ?_)
  rintro _ H7 ⟨k7, rfl⟩
  have n7 := k7.nxt
  have g7 := (k7.get (H3.nxt) (by omega)).trans g6
  have g7n := (k7.get (H.nxt) (by omega)).trans g6n
  have k07 := k06.trans k7
  cases c6 : inR 0 x.2.2 x.2.1 with
  | false =>
    simp (maxSteps := 4000000) (disch := omega) only [Zq, evO, vbox, wr, Zeq, if_true, if_false, Nat.reduceEqDiff, Nat.reduceAdd, Nat.reduceLeDiff, Nat.reduceSub, and_self, and_true, true_and, reduceIte, reduceCtorEq, eq_self, implies_true, forall_const, false_implies, imp_self, decide_true, decide_false, fix_nil, fix_cons, g0, g1, g2, t1, t3, g3, g4, g4n, g5, g5n, g6, g6n, g7, g7n, c6]
    exact ⟨k07, by rw [bad hcl (by rw [c6]; simp)]⟩
  | true =>
  simp (maxSteps := 4000000) (disch := omega) only [Zq, evO, vbox, wr, Zeq, if_true, if_false, Nat.reduceEqDiff, Nat.reduceAdd, Nat.reduceLeDiff, Nat.reduceSub, and_self, and_true, true_and, reduceIte, reduceCtorEq, eq_self, implies_true, forall_const, false_implies, imp_self, decide_true, decide_false, fix_nil, fix_cons, g0, g1, g2, t1, t3, g3, g4, g4n, g5, g5n, g6, g6n, g7, g7n, c6]
  refine G_calm rfl ?_
  have fin : Keep H2 H7 := k3.trans (k35.trans (k6.trans k7))
  by_cases i0 : 0 < i
  rotate_left
  · simp (maxSteps := 4000000) (disch := omega) only [Zq, evO, vbox, wr, Zeq, if_true, if_false, Nat.reduceEqDiff, Nat.reduceAdd, Nat.reduceLeDiff, Nat.reduceSub, and_self, and_true, true_and, reduceIte, reduceCtorEq, eq_self, implies_true, forall_const, false_implies, imp_self, decide_true, decide_false, fix_nil, fix_cons, g0, g1, g2, t1, t3, g3, g4, g4n, g5, g5n, g6, g6n, g7, g7n, Zfi (show ¬ (0 : Int) < (i : Int) by omega)]
    exact ⟨hin, fin, upto_succ ha (by rw [hcl, c2, c4, c6, decide_eq_false i0]; rfl)⟩
  have hwp := wrap_pred i0 (show i < 4611686018427387904 by omega)
  have ixp := fun H0 : Heap => slc_idx (r := rCall) (H1 := H0) (sz := 3) (i := i - 1) (k := .i64) rfl hc (by omega)
  have fxp := fun (H0 : Heap) (o off : Nat) => slc_fad (r := rCall) (H1 := H0) (sz := 3) (i := i - 1) (o := o) (off := off) rfl hc (by omega)
  obtain ⟨_, e2, _, e3⟩ := call_el (i := i - 1) ((rSlc rCall).rdk hc k07) (by omega)
  have hd : decide (0 < i) = true := decide_eq_true i0
  have hb : clB t.2 i = (decide (x.2.1 ≤ (cl t.2 (i - 1)).2.2) || decide (x.1 = (cl t.2 (i - 1)).1)) := by rw [clB, hx]
  by_cases c7 : x.2.1 ≤ (cl t.2 (i - 1)).2.2
  · simp (maxSteps := 4000000) (disch := omega) only [Zq, evO, vbox, wr, Zeq, if_true, if_false, Nat.reduceEqDiff, Nat.reduceAdd, Nat.reduceLeDiff, Nat.reduceSub, and_self, and_true, true_and, reduceIte, reduceCtorEq, eq_self, implies_true, forall_const, false_implies, imp_self, decide_true, decide_false, fix_nil, fix_cons, g0, g1, g2, t1, t3, g3, g4, g4n, g5, g5n, g6, g6n, g7, g7n, hwp, ixp, fxp, e3, Zfj c7, Zfh (show (0 : Int) < (i : Int) by omega)]
    exact ⟨k07, by rw [bad hcl (by rw [hb, hd, decide_eq_true c7]; simp)]⟩
  by_cases c8 : x.1 = (cl t.2 (i - 1)).1
  · simp (maxSteps := 4000000) (disch := omega) only [Zq, evO, vbox, wr, Zeq, if_true, if_false, Nat.reduceEqDiff, Nat.reduceAdd, Nat.reduceLeDiff, Nat.reduceSub, and_self, and_true, true_and, reduceIte, reduceCtorEq, eq_self, implies_true, forall_const, false_implies, imp_self, decide_true, decide_false, fix_nil, fix_cons, g0, g1, g2, t1, t3, g3, g4, g4n, g5, g5n, g6, g6n, g7, g7n, hwp, ixp, fxp, e2, e3, Zfk c7, Zfl c8, Zfh (show (0 : Int) < (i : Int) by omega)]
    exact ⟨k07, by rw [bad hcl (by rw [hb, hd, decide_eq_true c8]; simp)]⟩
  simp (maxSteps := 4000000) (disch := omega) only [Zq, evO, vbox, wr, Zeq, if_true, if_false, Nat.reduceEqDiff, Nat.reduceAdd, Nat.reduceLeDiff, Nat.reduceSub, and_self, and_true, true_and, reduceIte, reduceCtorEq, eq_self, implies_true, forall_const, false_implies, imp_self, decide_true, decide_false, fix_nil, fix_cons, g0, g1, g2, t1, t3, g3, g4, g4n, g5, g5n, g6, g6n, g7, g7n, hwp, ixp, fxp, e2, e3, Zfk c7, Zfm c8, Zfh (show (0 : Int) < (i : Int) by omega)]
  exact ⟨hin, fin, upto_succ ha (by rw [hcl, c2, c4, c6, hb, decide_eq_false c7, decide_eq_false c8]; simp)⟩
end
end Go.Proofs.Ytjjglonmaajjoaa.AX
