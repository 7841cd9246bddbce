/- Trains: whether their bookings are right, the reference's way. No condition beyond each law's own; of the program: the functions' forms. -/
import Derived.Test.YtkadelndmaegdaaTrp
namespace Go.Proofs.Ytkadelndmaegdaa.AX
open Go
set_option maxRecDepth 10000
set_option maxHeartbeats 4000000
set_option linter.unusedSimpArgs false
set_option linter.unusedVariables false
section
variable {H : Heap} {v : Value} {S P : Int} {l : List Bk}
theorem r_spec_TrainOk (h : (rSlc rBooking).rd H [v] l) (hl : l.length ≤ 1048576) : Run Try.prog 32 [.agg #[.int .i64 S, .int .i64 P, v]] H fun r H' => Keep H H' ∧ r = .bool (trainOk S P l) := by
  have lv : ∀ H : Heap, vlen H v = some (.int .i64 l.length, H) := fun _ => slc_len h
  refine Run.intro c32 rfl ?_
  simp (maxSteps := 4000000) (disch := omega) only [Zq, evO, vbox, wr, Zeq, if_true, if_false, Nat.reduceEqDiff, Nat.reduceAdd, Nat.reduceLeDiff, Nat.reduceSub, and_self, and_true, true_and, reduceIte, reduceCtorEq, eq_self, implies_true, forall_const, false_implies, imp_self, decide_true, decide_false, x32]
  generalize hG0 : H.push [.int .i64 S, .int .i64 P, v] = H0
  have k0 : Keep H H0 := by rw [← hG0]; exact Keep.push _ _
  have g0 : H0.get H.nxt = some (.own [.int .i64 S, .int .i64 P, v]) := by rw [← hG0, push_get', if_pos rfl]
  have n0 : H0.nxt = H.nxt + 1 := by rw [← hG0, Zbg]
  refine GO_call ((r_spec_l01In S 1 60 H0).mono ?_)
  rintro _ H1 ⟨k1, rfl⟩
  have n1 := k1.nxt
  have g1 := (k1.get (H.nxt) (by omega)).trans g0
  have k01 := k0.trans k1
  cases c1 : inR 1 60 S with
  | false =>
    simp (maxSteps := 4000000) (disch := omega) only [Zq, evO, vbox, wr, Zeq, if_true, if_false, Nat.reduceEqDiff, Nat.reduceAdd, Nat.reduceLeDiff, Nat.reduceSub, and_self, and_true, true_and, reduceIte, reduceCtorEq, eq_self, implies_true, forall_const, false_implies, imp_self, decide_true, decide_false, fix_nil, fix_cons, g0, g1, c1]
    exact ⟨k01, by simp [trainOk, c1]⟩
  | true =>
  have hS := inR_iff.1 c1
  simp (maxSteps := 4000000) (disch := omega) only [Zq, evO, vbox, wr, Zeq, if_true, if_false, Nat.reduceEqDiff, Nat.reduceAdd, Nat.reduceLeDiff, Nat.reduceSub, and_self, and_true, true_and, reduceIte, reduceCtorEq, eq_self, implies_true, forall_const, false_implies, imp_self, decide_true, decide_false, fix_nil, fix_cons, g0, g1, c1]
  refine GO_call ((r_spec_l01In P 1 11 H1).mono ?_)
  rintro _ H2 ⟨k2, rfl⟩
  have n2 := k2.nxt
  have g2 := (k2.get (H.nxt) (by omega)).trans g1
  have k02 := k01.trans k2
  cases c2 : inR 1 11 P with
  | false =>
    simp (maxSteps := 4000000) (disch := omega) only [Zq, evO, vbox, wr, Zeq, if_true, if_false, Nat.reduceEqDiff, Nat.reduceAdd, Nat.reduceLeDiff, Nat.reduceSub, and_self, and_true, true_and, reduceIte, reduceCtorEq, eq_self, implies_true, forall_const, false_implies, imp_self, decide_true, decide_false, fix_nil, fix_cons, g0, g1, g2, c2]
    exact ⟨k02, by simp [trainOk, c2]⟩
  | true =>
  have hP := inR_iff.1 c2
  by_cases c3 : (200 : Int) < l.length
  · simp (maxSteps := 4000000) (disch := omega) only [Zq, evO, vbox, wr, Zeq, if_true, if_false, Nat.reduceEqDiff, Nat.reduceAdd, Nat.reduceLeDiff, Nat.reduceSub, and_self, and_true, true_and, reduceIte, reduceCtorEq, eq_self, implies_true, forall_const, false_implies, imp_self, decide_true, decide_false, fix_nil, fix_cons, g0, g1, g2, c2, lv, Zfh c3]
    have h3 : ¬ l.length ≤ 200 := by omega
    exact ⟨k02, by simp [trainOk, h3]⟩
  simp (maxSteps := 4000000) (disch := omega) only [Zq, evO, vbox, wr, Zeq, if_true, if_false, Nat.reduceEqDiff, Nat.reduceAdd, Nat.reduceLeDiff, Nat.reduceSub, and_self, and_true, true_and, reduceIte, reduceCtorEq, eq_self, implies_true, forall_const, false_implies, imp_self, decide_true, decide_false, fix_nil, fix_cons, g0, g1, g2, c2, lv, Zfi c3]
  have nlt : H.nxt < H2.nxt := by omega
  refine G_forF [1] (l.length) (fun i T H3 => T 3 = .int .i64 (i : Int) ∧ Keep H2 H3 ∧ ∀ j, j < i → rowT S P l j = true) 0 (Nat.zero_le _) ?_ ?_
  · simp (maxSteps := 4000000) (disch := omega) only [Zq, evO, vbox, wr, Zeq, if_true, if_false, Nat.reduceEqDiff, Nat.reduceAdd, Nat.reduceLeDiff, Nat.reduceSub, and_self, and_true, true_and, reduceIte, reduceCtorEq, eq_self, implies_true, forall_const, false_implies, imp_self, decide_true, decide_false, fix_nil, fix_cons, g0, g1, g2]
    exact ⟨Keep.refl _, fun j hj => by omega⟩
  rintro i T H3 hi hT ⟨t3, k3, ha⟩
  simp only [fix_nil, fix_cons, Zq, evO, vbox, wr, Zeq, if_true, if_false, Nat.reduceEqDiff, Nat.reduceAdd, Nat.reduceLeDiff, Nat.reduceSub, and_self, and_true, true_and, reduceIte, reduceCtorEq, eq_self, implies_true, forall_const, false_implies, imp_self, decide_true, decide_false] at hT
  have t1 := hT
  have k03 := k02.trans k3
  have n3 := k03.nxt
  have n02 := k02.nxt
  have g3 := (k3.get H.nxt (by omega)).trans g2
  by_cases hin : i < l.length
  rotate_left
  · obtain rfl : i = l.length := by omega
    simp (maxSteps := 4000000) (disch := omega) only [Zq, evO, vbox, wr, Zeq, if_true, if_false, Nat.reduceEqDiff, Nat.reduceAdd, Nat.reduceLeDiff, Nat.reduceSub, and_self, and_true, true_and, reduceIte, reduceCtorEq, eq_self, implies_true, forall_const, false_implies, imp_self, decide_true, decide_false, fix_nil, fix_cons, g0, g1, g2, t1, t3, g3, lv]
    have h3 : l.length ≤ 200 := by omega
    exact ⟨k03, by rw [trainOk, c1, c2, allTo_iff.2 ha]; simp [h3]⟩
  have ixb := fun H0 : Heap => slc_idx (r := rBooking) (H1 := H0) (sz := 4) (i := i) (k := .i64) rfl h hin
  have e1 := (bk_elK h hin H3 k03).1
  have hbf := bfo_pos ha
  simp (maxSteps := 4000000) (disch := omega) only [Zq, evO, vbox, wr, Zeq, if_true, if_false, Nat.reduceEqDiff, Nat.reduceAdd, Nat.reduceLeDiff, Nat.reduceSub, and_self, and_true, true_and, reduceIte, reduceCtorEq, eq_self, implies_true, forall_const, false_implies, imp_self, decide_true, decide_false, fix_nil, fix_cons, g0, g1, g2, t1, t3, g3, lv, ixb, e1]
  generalize hG4 : (H3.push [.int .i64 0, .int .i64 0, .int .i64 0, .int .i64 0]).set H3.nxt [.int .i64 (bk l i).1, .int .i64 (bk l i).2.1, .int .i64 (bk l i).2.2.1, .int .i64 (bk l i).2.2.2] = H4
  have k4 : Keep H3 H4 := by rw [← hG4]; repeat' (first | exact Keep.refl _ | assumption | refine Keep.push' ?_ | refine Keep.set' ?_ ?_ | refine Keep.moved' ?_ ?_ | omega)
  have g4 : H4.get H3.nxt = some (.own [.int .i64 (bk l i).1, .int .i64 (bk l i).2.1, .int .i64 (bk l i).2.2.1, .int .i64 (bk l i).2.2.2]) := by rw [← hG4, Zbi, if_pos rfl]
  have n4 : H4.nxt = H3.nxt + 1 := by rw [← hG4, Zbh, Zbg]
  have k04 := k03.trans k4
  have g4b := (k4.get H.nxt (by have := k3.nxt; omega)).trans g3
  have wS : IntKind.i64.wrap (S - 1) = S - 1 := wrap64 (by omega) (by omega)
  refine G_tame rfl ?_
  by_cases q1 : (bk l i).1 ≤ 0
  · simp (maxSteps := 4000000) (disch := omega) only [Zq, evO, vbox, wr, Zeq, if_true, if_false, Nat.reduceEqDiff, Nat.reduceAdd, Nat.reduceLeDiff, Nat.reduceSub, and_self, and_true, true_and, reduceIte, reduceCtorEq, eq_self, implies_true, forall_const, false_implies, imp_self, decide_true, decide_false, fix_nil, fix_cons, g0, g1, g2, t1, t3, g3, g4, g4b, Zfj q1]
    exact ⟨k04, by rw [rowT_bad hin (by rw [Bool.eq_false_iff]; intro hh; have := (rowA_iff.1 hh).1; omega)]⟩
  by_cases z : i = 0
  · have q2 : bfo l i < (bk l i).1 := by rw [bfo, if_pos z]; omega
    simp (maxSteps := 4000000) (disch := omega) only [Zq, evO, vbox, wr, Zeq, if_true, if_false, Nat.reduceEqDiff, Nat.reduceAdd, Nat.reduceLeDiff, Nat.reduceSub, and_self, and_true, true_and, reduceIte, reduceCtorEq, eq_self, implies_true, forall_const, false_implies, imp_self, decide_true, decide_false, fix_nil, fix_cons, g0, g1, g2, t1, t3, g3, g4, g4b, Zfk q1, Zfi (by omega : ¬ (0 : Int) < (i : Int)), wS]
    refine GO_call ((r_spec_l01In (bk l i).2.1 0 (S - 1) H4).mono ?_)
    rintro _ H5 ⟨k5, rfl⟩
    have n5 := k5.nxt
    have g5 := (k5.get (H3.nxt) (by omega)).trans g4
    have g5b := (k5.get (H.nxt) (by omega)).trans g4b
    have k05 := k04.trans k5
    cases c5 : inR 0 (S - 1) (bk l i).2.1 with
    | false =>
      simp (maxSteps := 4000000) (disch := omega) only [Zq, evO, vbox, wr, Zeq, if_true, if_false, Nat.reduceEqDiff, Nat.reduceAdd, Nat.reduceLeDiff, Nat.reduceSub, and_self, and_true, true_and, reduceIte, reduceCtorEq, eq_self, implies_true, forall_const, false_implies, imp_self, decide_true, decide_false, fix_nil, fix_cons, g0, g1, g2, t1, t3, g3, g4, g4b, g5, g5b, c5]
      exact ⟨k05, by rw [rowT_bad hin (by rw [Bool.eq_false_iff]; intro hh; have := (rowA_iff.1 hh).2.1; rw [← inR_iff, c5] at this; cases this)]⟩
    | true =>
    have hb5 := inR_iff.1 c5
    simp (maxSteps := 4000000) (disch := omega) only [Zq, evO, vbox, wr, Zeq, if_true, if_false, Nat.reduceEqDiff, Nat.reduceAdd, Nat.reduceLeDiff, Nat.reduceSub, and_self, and_true, true_and, reduceIte, reduceCtorEq, eq_self, implies_true, forall_const, false_implies, imp_self, decide_true, decide_false, fix_nil, fix_cons, g0, g1, g2, t1, t3, g3, g4, g4b, g5, g5b, c5]
    refine GO_call ((r_spec_l01In (bk l i).2.2.2 1 P H5).mono ?_)
    rintro _ H6 ⟨k6, rfl⟩
    have n6 := k6.nxt
    have g6 := (k6.get (H3.nxt) (by omega)).trans g5
    have g6b := (k6.get (H.nxt) (by omega)).trans g5b
    have k06 := k05.trans k6
    cases c6 : inR 1 P (bk l i).2.2.2 with
    | false =>
      simp (maxSteps := 4000000) (disch := omega) only [Zq, evO, vbox, wr, Zeq, if_true, if_false, Nat.reduceEqDiff, Nat.reduceAdd, Nat.reduceLeDiff, Nat.reduceSub, and_self, and_true, true_and, reduceIte, reduceCtorEq, eq_self, implies_true, forall_const, false_implies, imp_self, decide_true, decide_false, fix_nil, fix_cons, g0, g1, g2, t1, t3, g3, g4, g4b, g5, g5b, g6, g6b, c6]
      exact ⟨k06, by rw [rowT_bad hin (by rw [Bool.eq_false_iff]; intro hh; have := (rowA_iff.1 hh).2.2; have h7 : inR 1 P (bk l i).2.2.2 = true := inR_iff.2 (by omega); rw [c6] at h7; cases h7)]⟩
    | true =>
    have hb6 := inR_iff.1 c6
    have wo : IntKind.i64.wrap ((bk l i).2.2.2 - 1) = (bk l i).2.2.2 - 1 := wrap64 (by omega) (by omega)
    simp (maxSteps := 4000000) (disch := omega) only [Zq, evO, vbox, wr, Zeq, if_true, if_false, Nat.reduceEqDiff, Nat.reduceAdd, Nat.reduceLeDiff, Nat.reduceSub, and_self, and_true, true_and, reduceIte, reduceCtorEq, eq_self, implies_true, forall_const, false_implies, imp_self, decide_true, decide_false, fix_nil, fix_cons, g0, g1, g2, t1, t3, g3, g4, g4b, g5, g5b, g6, g6b, c6, wo]
    refine GO_call ((r_spec_l01In (bk l i).2.2.1 0 ((bk l i).2.2.2 - 1) H6).mono ?_)
    rintro _ H7 ⟨k7, rfl⟩
    have n7 := k7.nxt
    have g7 := (k7.get (H3.nxt) (by omega)).trans g6
    have g7b := (k7.get (H.nxt) (by omega)).trans g6b
    have k07 := k06.trans k7
    cases c7 : inR 0 ((bk l i).2.2.2 - 1) (bk l i).2.2.1 with
    | false =>
      simp (maxSteps := 4000000) (disch := omega) only [Zq, evO, vbox, wr, Zeq, if_true, if_false, Nat.reduceEqDiff, Nat.reduceAdd, Nat.reduceLeDiff, Nat.reduceSub, and_self, and_true, true_and, reduceIte, reduceCtorEq, eq_self, implies_true, forall_const, false_implies, imp_self, decide_true, decide_false, fix_nil, fix_cons, g0, g1, g2, t1, t3, g3, g4, g4b, g5, g5b, g6, g6b, g7, g7b, c7]
      exact ⟨k07, by rw [rowT_bad hin (by rw [Bool.eq_false_iff]; intro hh; have := (rowA_iff.1 hh).2.2; have h7 : inR 0 ((bk l i).2.2.2 - 1) (bk l i).2.2.1 = true := inR_iff.2 (by omega); rw [c7] at h7; cases h7)]⟩
    | true =>
    have hb7 := inR_iff.1 c7
    have hA : rowA S P l i = true := rowA_iff.2 ⟨q2, hb5, by omega⟩
    have k37 := k3.trans (k4.trans (k5.trans (k6.trans k7)))
    simp (maxSteps := 4000000) (disch := omega) only [Zq, evO, vbox, wr, Zeq, if_true, if_false, Nat.reduceEqDiff, Nat.reduceAdd, Nat.reduceLeDiff, Nat.reduceSub, and_self, and_true, true_and, reduceIte, reduceCtorEq, eq_self, implies_true, forall_const, false_implies, imp_self, decide_true, decide_false, fix_nil, fix_cons, g0, g1, g2, t1, t3, g3, g4, g4b, g5, g5b, g6, g6b, g7, g7b, c7]
    refine G_forF [1, 3, 4] (i) (fun k T H8 => T 5 = .int .i64 (k : Int) ∧ Keep H7 H8 ∧ ∀ j, j < k → ovl (bk l j) (bk l i) = false) 0 (Nat.zero_le _) ?_ ?_
    · simp (maxSteps := 4000000) (disch := omega) only [Zq, evO, vbox, wr, Zeq, if_true, if_false, Nat.reduceEqDiff, Nat.reduceAdd, Nat.reduceLeDiff, Nat.reduceSub, and_self, and_true, true_and, reduceIte, reduceCtorEq, eq_self, implies_true, forall_const, false_implies, imp_self, decide_true, decide_false, fix_nil, fix_cons, g0, g1, g2, t1, t3, g3, g4, g4b, g5, g5b, g6, g6b, g7, g7b]
      exact ⟨Keep.refl _, fun j hj => by omega⟩
    rintro k T H8 hk hT ⟨t5, k8, hb⟩
    simp only [fix_nil, fix_cons, Zq, evO, vbox, wr, Zeq, if_true, if_false, Nat.reduceEqDiff, Nat.reduceAdd, Nat.reduceLeDiff, Nat.reduceSub, and_self, and_true, true_and, reduceIte, reduceCtorEq, eq_self, implies_true, forall_const, false_implies, imp_self, decide_true, decide_false, t1, t3] at hT
    obtain ⟨t1, t3, t4⟩ := hT
    have k08 := k07.trans k8
    have n8 := k08.nxt
    have g8 := (k8.get H3.nxt (by have := k4.nxt; have := k5.nxt; have := k6.nxt; have := k7.nxt; omega)).trans g7
    have g8b := (k8.get H.nxt (by have := k07.nxt; omega)).trans g7b
    obtain rfl : k = i := by omega
    simp (maxSteps := 4000000) (disch := omega) only [Zq, evO, vbox, wr, Zeq, if_true, if_false, Nat.reduceEqDiff, Nat.reduceAdd, Nat.reduceLeDiff, Nat.reduceSub, and_self, and_true, true_and, reduceIte, reduceCtorEq, eq_self, implies_true, forall_const, false_implies, imp_self, decide_true, decide_false, fix_nil, fix_cons, g0, g1, g2, t1, t3, g3, g4, g4b, g5, g5b, g6, g6b, g7, g7b, t4, t5, g8, g8b, Zfi (by omega : ¬ (k : Int) < (k : Int))]
    exact ⟨hin, k37.trans k8, upto_succ ha (by rw [rowT, hA, allTo_iff.2 (fun j hj => by rw [hb j hj]; rfl)]; rfl)⟩
  have ixp := fun H0 : Heap => slc_idx (r := rBooking) (H1 := H0) (sz := 4) (i := i - 1) (k := .i64) rfl h (by omega)
  have fxp := fun (H0 : Heap) (o off : Nat) => slc_fad (r := rBooking) (H1 := H0) (sz := 4) (i := i - 1) (o := o) (off := off) rfl h (by omega)
  have e2 := (bk_elK h (by omega : i - 1 < l.length) H4 k04).2
  have w1 := wrap_pred (by omega : 0 < i) (by omega)
  by_cases q3 : (bk l i).1 ≤ (bk l (i - 1)).1
  · simp (maxSteps := 4000000) (disch := omega) only [Zq, evO, vbox, wr, Zeq, if_true, if_false, Nat.reduceEqDiff, Nat.reduceAdd, Nat.reduceLeDiff, Nat.reduceSub, and_self, and_true, true_and, reduceIte, reduceCtorEq, eq_self, implies_true, forall_const, false_implies, imp_self, decide_true, decide_false, fix_nil, fix_cons, g0, g1, g2, t1, t3, g3, g4, g4b, Zfk q1, Zfh (by omega : (0 : Int) < (i : Int)), w1, ixp, fxp, e2, Zfj q3]
    exact ⟨k04, by rw [rowT_bad hin (by rw [Bool.eq_false_iff]; intro hh; have := (rowA_iff.1 hh).1; rw [bfo, if_neg (by omega)] at this; omega)]⟩
  have q2 : bfo l i < (bk l i).1 := by rw [bfo, if_neg z]; omega
  simp (maxSteps := 4000000) (disch := omega) only [Zq, evO, vbox, wr, Zeq, if_true, if_false, Nat.reduceEqDiff, Nat.reduceAdd, Nat.reduceLeDiff, Nat.reduceSub, and_self, and_true, true_and, reduceIte, reduceCtorEq, eq_self, implies_true, forall_const, false_implies, imp_self, decide_true, decide_false, fix_nil, fix_cons, g0, g1, g2, t1, t3, g3, g4, g4b, Zfk q1, Zfh (by omega : (0 : Int) < (i : Int)), w1, ixp, fxp, e2, Zfk q3, wS]
  refine GO_call ((r_spec_l01In (bk l i).2.1 0 (S - 1) H4).mono ?_)
  rintro _ H5 ⟨k5, rfl⟩
  have n5 := k5.nxt
  have g5 := (k5.get (H3.nxt) (by omega)).trans g4
  have g5b := (k5.get (H.nxt) (by omega)).trans g4b
  have k05 := k04.trans k5
  cases c5 : inR 0 (S - 1) (bk l i).2.1 with
  | false =>
    simp (maxSteps := 4000000) (disch := omega) only [Zq, evO, vbox, wr, Zeq, if_true, if_false, Nat.reduceEqDiff, Nat.reduceAdd, Nat.reduceLeDiff, Nat.reduceSub, and_self, and_true, true_and, reduceIte, reduceCtorEq, eq_self, implies_true, forall_const, false_implies, imp_self, decide_true, decide_false, fix_nil, fix_cons, g0, g1, g2, t1, t3, g3, g4, g4b, g5, g5b, c5]
    exact ⟨k05, by rw [rowT_bad hin (by rw [Bool.eq_false_iff]; intro hh; have := (rowA_iff.1 hh).2.1; rw [← inR_iff, c5] at this; cases this)]⟩
  | true =>
  have hb5 := inR_iff.1 c5
  simp (maxSteps := 4000000) (disch := omega) only [Zq, evO, vbox, wr, Zeq, if_true, if_false, Nat.reduceEqDiff, Nat.reduceAdd, Nat.reduceLeDiff, Nat.reduceSub, and_self, and_true, true_and, reduceIte, reduceCtorEq, eq_self, implies_true, forall_const, false_implies, imp_self, decide_true, decide_false, fix_nil, fix_cons, g0, g1, g2, t1, t3, g3, g4, g4b, g5, g5b, c5]
  refine GO_call ((r_spec_l01In (bk l i).2.2.2 1 P H5).mono ?_)
  rintro _ H6 ⟨k6, rfl⟩
  have n6 := k6.nxt
  have g6 := (k6.get (H3.nxt) (by omega)).trans g5
  have g6b := (k6.get (H.nxt) (by omega)).trans g5b
  have k06 := k05.trans k6
  cases c6 : inR 1 P (bk l i).2.2.2 with
  | false =>
    simp (maxSteps := 4000000) (disch := omega) only [Zq, evO, vbox, wr, Zeq, if_true, if_false, Nat.reduceEqDiff, Nat.reduceAdd, Nat.reduceLeDiff, Nat.reduceSub, and_self, and_true, true_and, reduceIte, reduceCtorEq, eq_self, implies_true, forall_const, false_implies, imp_self, decide_true, decide_false, fix_nil, fix_cons, g0, g1, g2, t1, t3, g3, g4, g4b, g5, g5b, g6, g6b, c6]
    exact ⟨k06, by rw [rowT_bad hin (by rw [Bool.eq_false_iff]; intro hh; have := (rowA_iff.1 hh).2.2; have h7 : inR 1 P (bk l i).2.2.2 = true := inR_iff.2 (by omega); rw [c6] at h7; cases h7)]⟩
  | true =>
  have hb6 := inR_iff.1 c6
  have wo : IntKind.i64.wrap ((bk l i).2.2.2 - 1) = (bk l i).2.2.2 - 1 := wrap64 (by omega) (by omega)
  simp (maxSteps := 4000000) (disch := omega) only [Zq, evO, vbox, wr, Zeq, if_true, if_false, Nat.reduceEqDiff, Nat.reduceAdd, Nat.reduceLeDiff, Nat.reduceSub, and_self, and_true, true_and, reduceIte, reduceCtorEq, eq_self, implies_true, forall_const, false_implies, imp_self, decide_true, decide_false, fix_nil, fix_cons, g0, g1, g2, t1, t3, g3, g4, g4b, g5, g5b, g6, g6b, c6, wo]
  refine GO_call ((r_spec_l01In (bk l i).2.2.1 0 ((bk l i).2.2.2 - 1) H6).mono ?_)
  rintro _ H7 ⟨k7, rfl⟩
  have n7 := k7.nxt
  have g7 := (k7.get (H3.nxt) (by omega)).trans g6
  have g7b := (k7.get (H.nxt) (by omega)).trans g6b
  have k07 := k06.trans k7
  cases c7 : inR 0 ((bk l i).2.2.2 - 1) (bk l i).2.2.1 with
  | false =>
    simp (maxSteps := 4000000) (disch := omega) only [Zq, evO, vbox, wr, Zeq, if_true, if_false, Nat.reduceEqDiff, Nat.reduceAdd, Nat.reduceLeDiff, Nat.reduceSub, and_self, and_true, true_and, reduceIte, reduceCtorEq, eq_self, implies_true, forall_const, false_implies, imp_self, decide_true, decide_false, fix_nil, fix_cons, g0, g1, g2, t1, t3, g3, g4, g4b, g5, g5b, g6, g6b, g7, g7b, c7]
    exact ⟨k07, by rw [rowT_bad hin (by rw [Bool.eq_false_iff]; intro hh; have := (rowA_iff.1 hh).2.2; have h7 : inR 0 ((bk l i).2.2.2 - 1) (bk l i).2.2.1 = true := inR_iff.2 (by omega); rw [c7] at h7; cases h7)]⟩
  | true =>
  have hb7 := inR_iff.1 c7
  have hA : rowA S P l i = true := rowA_iff.2 ⟨q2, hb5, by omega⟩
  have k37 := k3.trans (k4.trans (k5.trans (k6.trans k7)))
  simp (maxSteps := 4000000) (disch := omega) only [Zq, evO, vbox, wr, Zeq, if_true, if_false, Nat.reduceEqDiff, Nat.reduceAdd, Nat.reduceLeDiff, Nat.reduceSub, and_self, and_true, true_and, reduceIte, reduceCtorEq, eq_self, implies_true, forall_const, false_implies, imp_self, decide_true, decide_false, fix_nil, fix_cons, g0, g1, g2, t1, t3, g3, g4, g4b, g5, g5b, g6, g6b, g7, g7b, c7]
  refine G_forF [1, 3, 4] (i) (fun k T H8 => T 5 = .int .i64 (k : Int) ∧ Keep H7 H8 ∧ ∀ j, j < k → ovl (bk l j) (bk l i) = false) 0 (Nat.zero_le _) ?_ ?_
  · simp (maxSteps := 4000000) (disch := omega) only [Zq, evO, vbox, wr, Zeq, if_true, if_false, Nat.reduceEqDiff, Nat.reduceAdd, Nat.reduceLeDiff, Nat.reduceSub, and_self, and_true, true_and, reduceIte, reduceCtorEq, eq_self, implies_true, forall_const, false_implies, imp_self, decide_true, decide_false, fix_nil, fix_cons, g0, g1, g2, t1, t3, g3, g4, g4b, g5, g5b, g6, g6b, g7, g7b]
    exact ⟨Keep.refl _, fun j hj => by omega⟩
  rintro k T H8 hk hT ⟨t5, k8, hb⟩
  simp only [fix_nil, fix_cons, Zq, evO, vbox, wr, Zeq, if_true, if_false, Nat.reduceEqDiff, Nat.reduceAdd, Nat.reduceLeDiff, Nat.reduceSub, and_self, and_true, true_and, reduceIte, reduceCtorEq, eq_self, implies_true, forall_const, false_implies, imp_self, decide_true, decide_false, t1, t3] at hT
  obtain ⟨t1, t3, t4⟩ := hT
  have k08 := k07.trans k8
  have n8 := k08.nxt
  have g8 := (k8.get H3.nxt (by have := k4.nxt; have := k5.nxt; have := k6.nxt; have := k7.nxt; omega)).trans g7
  have g8b := (k8.get H.nxt (by have := k07.nxt; omega)).trans g7b
  by_cases hki : k < i
  rotate_left
  · obtain rfl : k = i := by omega
    simp (maxSteps := 4000000) (disch := omega) only [Zq, evO, vbox, wr, Zeq, if_true, if_false, Nat.reduceEqDiff, Nat.reduceAdd, Nat.reduceLeDiff, Nat.reduceSub, and_self, and_true, true_and, reduceIte, reduceCtorEq, eq_self, implies_true, forall_const, false_implies, imp_self, decide_true, decide_false, fix_nil, fix_cons, g0, g1, g2, t1, t3, g3, g4, g4b, g5, g5b, g6, g6b, g7, g7b, t4, t5, g8, g8b, Zfi (by omega : ¬ (k : Int) < (k : Int))]
    exact ⟨hin, k37.trans k8, upto_succ ha (by rw [rowT, hA, allTo_iff.2 (fun j hj => by rw [hb j hj]; rfl)]; rfl)⟩
  have ixk := fun H0 : Heap => slc_idx (r := rBooking) (H1 := H0) (sz := 4) (i := k) (k := .i64) rfl h (by omega)
  have e8 := (bk_elK h (by omega : k < l.length) H8 k08).1
  have nne : H3.nxt < H8.nxt := by have := k4.nxt; have := k8.nxt; have := k5.nxt; have := k6.nxt; have := k7.nxt; omega
  simp (maxSteps := 4000000) (disch := omega) only [Zq, evO, vbox, wr, Zeq, if_true, if_false, Nat.reduceEqDiff, Nat.reduceAdd, Nat.reduceLeDiff, Nat.reduceSub, and_self, and_true, true_and, reduceIte, reduceCtorEq, eq_self, implies_true, forall_const, false_implies, imp_self, decide_true, decide_false, fix_nil, fix_cons, g0, g1, g2, t1, t3, g3, g4, g4b, g5, g5b, g6, g6b, g7, g7b, t4, t5, g8, g8b, Zfh (by omega : (k : Int) < (i : Int)), ixk, e8]
  generalize hG9 : (H8.push [.int .i64 0, .int .i64 0, .int .i64 0, .int .i64 0]).set H8.nxt [.int .i64 (bk l k).1, .int .i64 (bk l k).2.1, .int .i64 (bk l k).2.2.1, .int .i64 (bk l k).2.2.2] = H9
  have k9 : Keep H8 H9 := by rw [← hG9]; repeat' (first | exact Keep.refl _ | assumption | refine Keep.push' ?_ | refine Keep.set' ?_ ?_ | refine Keep.moved' ?_ ?_ | omega)
  have g9 : H9.get H8.nxt = some (.own [.int .i64 (bk l k).1, .int .i64 (bk l k).2.1, .int .i64 (bk l k).2.2.1, .int .i64 (bk l k).2.2.2]) := by rw [← hG9, Zbi, if_pos rfl]
  have n9 : H9.nxt = H8.nxt + 1 := by rw [← hG9, Zbh, Zbg]
  have g9b := (k9.get H3.nxt nne).trans g8
  have k09 := k08.trans k9
  by_cases r1 : (bk l k).2.1 = (bk l i).2.1
  · by_cases r2 : (bk l k).2.2.1 < (bk l i).2.2.2
    · by_cases r3 : (bk l i).2.2.1 < (bk l k).2.2.2
      · simp (maxSteps := 4000000) (disch := omega) only [Zq, evO, vbox, wr, Zeq, if_true, if_false, Nat.reduceEqDiff, Nat.reduceAdd, Nat.reduceLeDiff, Nat.reduceSub, and_self, and_true, true_and, reduceIte, reduceCtorEq, eq_self, implies_true, forall_const, false_implies, imp_self, decide_true, decide_false, fix_nil, fix_cons, g0, g1, g2, t1, t3, g3, g4, g4b, g5, g5b, g6, g6b, g7, g7b, t4, t5, g8, g8b, g9, g9b, Zfl r1, Zfh r2, Zfh r3]
        exact ⟨k09, by rw [rowT_ovl hin hki (by simp [ovl, r1, r2, r3])]⟩
      · simp (maxSteps := 4000000) (disch := omega) only [Zq, evO, vbox, wr, Zeq, if_true, if_false, Nat.reduceEqDiff, Nat.reduceAdd, Nat.reduceLeDiff, Nat.reduceSub, and_self, and_true, true_and, reduceIte, reduceCtorEq, eq_self, implies_true, forall_const, false_implies, imp_self, decide_true, decide_false, fix_nil, fix_cons, g0, g1, g2, t1, t3, g3, g4, g4b, g5, g5b, g6, g6b, g7, g7b, t4, t5, g8, g8b, g9, g9b, Zfl r1, Zfh r2, Zfi r3]
        exact ⟨hki, k8.trans k9, fun j hj => by
          by_cases z : j = k
          · subst z; simp [ovl, r3]
          · exact hb j (by omega)⟩
    · simp (maxSteps := 4000000) (disch := omega) only [Zq, evO, vbox, wr, Zeq, if_true, if_false, Nat.reduceEqDiff, Nat.reduceAdd, Nat.reduceLeDiff, Nat.reduceSub, and_self, and_true, true_and, reduceIte, reduceCtorEq, eq_self, implies_true, forall_const, false_implies, imp_self, decide_true, decide_false, fix_nil, fix_cons, g0, g1, g2, t1, t3, g3, g4, g4b, g5, g5b, g6, g6b, g7, g7b, t4, t5, g8, g8b, g9, g9b, Zfl r1, Zfi r2]
      exact ⟨hki, k8.trans k9, fun j hj => by
        by_cases z : j = k
        · subst z; simp [ovl, r2]
        · exact hb j (by omega)⟩
  · simp (maxSteps := 4000000) (disch := omega) only [Zq, evO, vbox, wr, Zeq, if_true, if_false, Nat.reduceEqDiff, Nat.reduceAdd, Nat.reduceLeDiff, Nat.reduceSub, and_self, and_true, true_and, reduceIte, reduceCtorEq, eq_self, implies_true, forall_const, false_implies, imp_self, decide_true, decide_false, fix_nil, fix_cons, g0, g1, g2, t1, t3, g3, g4, g4b, g5, g5b, g6, g6b, g7, g7b, t4, t5, g8, g8b, g9, g9b, Zfm r1]
    exact ⟨hki, k8.trans k9, fun j hj => by
      by_cases z : j = k
      · subst z; simp [ovl, r1]
      · exact hb j (by omega)⟩
end
end Go.Proofs.Ytkadelndmaegdaa.AX
