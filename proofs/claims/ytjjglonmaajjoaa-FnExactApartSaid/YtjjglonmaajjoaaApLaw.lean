/- FnExactApart: the law's run. No condition; of the program: the functions' forms. -/
import Derived.Test.YtjjglonmaajjoaaApb
import Derived.Test.YtjjglonmaajjoaaApc
namespace Go.Proofs.Ytjjglonmaajjoaa.AX
open Go
set_option maxRecDepth 10000
set_option maxHeartbeats 4000000
set_option linter.unusedSimpArgs false
set_option linter.unusedVariables false
theorem net_law {H : Heap} {v : Value} {p : Int × List Ed} (h : rNet.rd H [.int .i64 p.1, v] p) (ht : rNet.tot p ≤ 1048576) : (rSlc rEdge).rd H [v] p.2 ∧ p.2.length ≤ 1048576 := by
  obtain ⟨a, e, q⟩ := net_rd (x0 := p.1) (x1 := p.2) h
  simp only [List.cons.injEq, and_true, true_and] at e
  subst e
  refine ⟨q, ?_⟩
  have : rNet.tot (p.1, p.2) = (rSlc rEdge).tot p.2 := net_tot
  rw [flat_tot] at this
  have e2 : rNet.tot p = rNet.tot (p.1, p.2) := rfl
  omega
theorem r_laws_FnExactApart {H : Heap} {v0_1 : Value} {a0 : Int × (List (Int × Int × Int × Int))} {v1 : Value} {a1 : List (ByteArray × (List (Int × Int × Int)))} {v2 : Value} {a2 : List (Int × Int × Int × Int)} (h0 : (rNet).rd H [.int .i64 (a0).1, v0_1] a0) (fit0 : (rNet).fit a0) (h1 : ((rSlc rTrip)).rd H [v1] a1) (fit1 : ((rSlc rTrip)).fit a1) (h2 : ((rSlc rRun)).rd H [v2] a2) (fit2 : ((rSlc rRun)).fit a2) : Run Try.prog 13 [.agg #[.int .i64 (a0).1, v0_1], v1, v2] H fun r _ => r = .bool true := by
  refine Run.intro c13 rfl ?_
  simp (maxSteps := 4000000) (disch := omega) only [Zq, evO, vbox, wr, Zeq, if_true, if_false, Nat.reduceEqDiff, Nat.reduceAdd, Nat.reduceLeDiff, Nat.reduceSub, and_self, and_true, true_and, reduceIte, reduceCtorEq, eq_self, implies_true, forall_const, false_implies, imp_self, decide_true, decide_false, x13]
  generalize hG0 : (H.push [.int .i64 (a0).1, v0_1]) = H0
  have k0_0 : Keep H H0 := by rw [← hG0]; repeat' (first | exact Keep.refl _ | assumption | refine Keep.push' ?_ | refine Keep.set' ?_ ?_ | refine Keep.moved' ?_ ?_ | omega)
  have gb0_0 : H0.get H.nxt = some (.own [.int .i64 (a0).1, v0_1]) := by rw [← hG0]; simp (maxSteps := 4000000) (disch := omega) only [Zq, evO, vbox, wr, Zeq, if_true, if_false, Nat.reduceEqDiff, Nat.reduceAdd, Nat.reduceLeDiff, Nat.reduceSub, and_self, and_true, true_and, reduceIte, reduceCtorEq, eq_self, implies_true, forall_const, false_implies, imp_self, decide_true, decide_false]
  have nn0 : H.nxt + 1 = H0.nxt := by rw [← hG0]; simp only [Zbg]
  refine GO_call ((szNet_is H0 [.int .i64 (a0).1, v0_1] a0 1048576 ((rNet).rdk h0 k0_0) fit0 (by omega)).mono ?_)
  rintro w H1 ⟨k1, hw⟩
  have n1 := k1.nxt
  have gb0_1 := (k1.get H.nxt (by omega)).trans gb0_0
  have k0_1 := k0_0.trans k1
  rcases hw with rfl | ⟨q0, rfl, hq0⟩
  · simp (maxSteps := 4000000) (disch := omega) only [Zq, evO, vbox, wr, Zeq, if_true, if_false, Nat.reduceEqDiff, Nat.reduceAdd, Nat.reduceLeDiff, Nat.reduceSub, and_self, and_true, true_and, reduceIte, reduceCtorEq, eq_self, implies_true, forall_const, false_implies, imp_self, decide_true, decide_false, vbinB_ne, gb0_1]
  simp (maxSteps := 4000000) (disch := omega) only [Zq, evO, vbox, wr, Zeq, if_true, if_false, Nat.reduceEqDiff, Nat.reduceAdd, Nat.reduceLeDiff, Nat.reduceSub, and_self, and_true, true_and, reduceIte, reduceCtorEq, eq_self, implies_true, forall_const, false_implies, imp_self, decide_true, decide_false, vbinB_ne, gb0_1]
  have ht0 : (rNet).tot a0 ≤ 1048576 := by omega
  first | refine G_fix [1, 2, 3, 18, 19] ?_ | refine GO_fix [1, 2, 3, 18, 19] ?_ | refine cK_fix [1, 2, 3, 18, 19] ?_
  intro T hT
  simp only [fix_nil, fix_cons, Zq, evO, vbox, wr, Zeq, if_true, if_false, Nat.reduceEqDiff, Nat.reduceAdd, Nat.reduceLeDiff, Nat.reduceSub, and_self, and_true, true_and, reduceIte, reduceCtorEq, eq_self, implies_true, forall_const, false_implies, imp_self, decide_true, decide_false] at hT
  obtain ⟨t1, t2, t3, t18, t19⟩ := hT
  refine GO_call_eq (by (simp (maxSteps := 4000000) (disch := omega) only [Zq, evO, vbox, wr, Zeq, if_true, if_false, Nat.reduceEqDiff, Nat.reduceAdd, Nat.reduceLeDiff, Nat.reduceSub, and_self, and_true, true_and, reduceIte, reduceCtorEq, eq_self, implies_true, forall_const, false_implies, imp_self, decide_true, decide_false, t1, t2, t3, t18, t19]) <;> rfl) ((szTripS_is H1 [v1] a1 q0 (((rSlc rTrip)).rdk h1 k0_1) fit1 (by omega)).mono ?_)
  rintro w H2 ⟨k2, hw⟩
  have n2 := k2.nxt
  have gb0_2 := (k2.get H.nxt (by omega)).trans gb0_1
  have k0_2 := k0_1.trans k2
  rcases hw with rfl | ⟨q1, rfl, hq1⟩
  · simp (maxSteps := 4000000) (disch := omega) only [Zq, evO, vbox, wr, Zeq, if_true, if_false, Nat.reduceEqDiff, Nat.reduceAdd, Nat.reduceLeDiff, Nat.reduceSub, and_self, and_true, true_and, reduceIte, reduceCtorEq, eq_self, implies_true, forall_const, false_implies, imp_self, decide_true, decide_false, vbinB_ne, gb0_2, t1, t2, t3, t18, t19]
  simp (maxSteps := 4000000) (disch := omega) only [Zq, evO, vbox, wr, Zeq, if_true, if_false, Nat.reduceEqDiff, Nat.reduceAdd, Nat.reduceLeDiff, Nat.reduceSub, and_self, and_true, true_and, reduceIte, reduceCtorEq, eq_self, implies_true, forall_const, false_implies, imp_self, decide_true, decide_false, vbinB_ne, gb0_2, t1, t2, t3, t18, t19]
  have ht1 : ((rSlc rTrip)).tot a1 ≤ 1048576 := by omega
  refine GO_call_eq (by (simp (maxSteps := 4000000) (disch := omega) only [Zq, evO, vbox, wr, Zeq, if_true, if_false, Nat.reduceEqDiff, Nat.reduceAdd, Nat.reduceLeDiff, Nat.reduceSub, and_self, and_true, true_and, reduceIte, reduceCtorEq, eq_self, implies_true, forall_const, false_implies, imp_self, decide_true, decide_false, t1, t2, t3, t18, t19]) <;> rfl) ((szRunS_is H2 [v2] a2 q1 (((rSlc rRun)).rdk h2 k0_2) fit2 (by omega)).mono ?_)
  rintro w H3 ⟨k3, hw⟩
  have n3 := k3.nxt
  have gb0_3 := (k3.get H.nxt (by omega)).trans gb0_2
  have k0_3 := k0_2.trans k3
  rcases hw with rfl | ⟨q2, rfl, hq2⟩
  · simp (maxSteps := 4000000) (disch := omega) only [Zq, evO, vbox, wr, Zeq, if_true, if_false, Nat.reduceEqDiff, Nat.reduceAdd, Nat.reduceLeDiff, Nat.reduceSub, and_self, and_true, true_and, reduceIte, reduceCtorEq, eq_self, implies_true, forall_const, false_implies, imp_self, decide_true, decide_false, vbinB_ne, gb0_3, t1, t2, t3, t18, t19]
  simp (maxSteps := 4000000) (disch := omega) only [Zq, evO, vbox, wr, Zeq, if_true, if_false, Nat.reduceEqDiff, Nat.reduceAdd, Nat.reduceLeDiff, Nat.reduceSub, and_self, and_true, true_and, reduceIte, reduceCtorEq, eq_self, implies_true, forall_const, false_implies, imp_self, decide_true, decide_false, vbinB_ne, gb0_3, t1, t2, t3, t18, t19]
  have ht2 : ((rSlc rRun)).tot a2 ≤ 1048576 := by omega
  first | refine G_fix [1, 2, 3, 28] ?_ | refine GO_fix [1, 2, 3, 28] ?_ | refine cK_fix [1, 2, 3, 28] ?_
  intro T hT
  simp only [fix_nil, fix_cons, Zq, evO, vbox, wr, Zeq, if_true, if_false, Nat.reduceEqDiff, Nat.reduceAdd, Nat.reduceLeDiff, Nat.reduceSub, and_self, and_true, true_and, reduceIte, reduceCtorEq, eq_self, implies_true, forall_const, false_implies, imp_self, decide_true, decide_false, t1, t2, t3, t18, t19] at hT
  obtain ⟨t1, t2, t3, t28⟩ := hT
  refine GO_call_eq (by (simp (maxSteps := 4000000) (disch := omega) only [Zq, evO, vbox, wr, Zeq, if_true, if_false, Nat.reduceEqDiff, Nat.reduceAdd, Nat.reduceLeDiff, Nat.reduceSub, and_self, and_true, true_and, reduceIte, reduceCtorEq, eq_self, implies_true, forall_const, false_implies, imp_self, decide_true, decide_false, t1, t2, t3, t28]) <;> rfl) ((toNet_is H3 [.int .i64 (a0).1, v0_1] a0 ((rNet).rdk h0 k0_3) ht0).mono ?_)
  rintro _ H4 ⟨k4, csy1, Fy1, rfl, oy1_4, fy1⟩
  have n4 := k4.nxt
  have gb0_4 := (k4.get H.nxt (by omega)).trans gb0_3
  have k0_4 := k0_3.trans k4
  obtain ⟨vy1_1, rfl, _⟩ := net_rd (x0 := (a0).1) (x1 := (a0).2) ((rNet).ownrd oy1_4)
  simp only [net_val]
  simp (maxSteps := 4000000) (disch := omega) only [Zq, evO, vbox, wr, Zeq, if_true, if_false, Nat.reduceEqDiff, Nat.reduceAdd, Nat.reduceLeDiff, Nat.reduceSub, and_self, and_true, true_and, reduceIte, reduceCtorEq, eq_self, implies_true, forall_const, false_implies, imp_self, decide_true, decide_false, vbinB_ne, gb0_4, t1, t2, t3, t28]
  refine GO_call_eq (by (simp (maxSteps := 4000000) (disch := omega) only [Zq, evO, vbox, wr, Zeq, if_true, if_false, Nat.reduceEqDiff, Nat.reduceAdd, Nat.reduceLeDiff, Nat.reduceSub, and_self, and_true, true_and, reduceIte, reduceCtorEq, eq_self, implies_true, forall_const, false_implies, imp_self, decide_true, decide_false, t1, t2, t3, t28]) <;> rfl) ((toTripS_is H4 [v1] a1 (((rSlc rTrip)).rdk h1 k0_4) ht1).mono ?_)
  rintro _ H5 ⟨k5, csy2, Fy2, rfl, oy2_5, fy2⟩
  have n5 := k5.nxt
  have gb0_5 := (k5.get H.nxt (by omega)).trans gb0_4
  have k0_5 := k0_4.trans k5
  have oy1_5 := (rNet).ownKeep oy1_4 k5
  obtain ⟨vy2, rfl⟩ := slc_one (((rSlc rTrip)).ownrd oy2_5)
  simp only [slc_val]
  simp (maxSteps := 4000000) (disch := omega) only [Zq, evO, vbox, wr, Zeq, if_true, if_false, Nat.reduceEqDiff, Nat.reduceAdd, Nat.reduceLeDiff, Nat.reduceSub, and_self, and_true, true_and, reduceIte, reduceCtorEq, eq_self, implies_true, forall_const, false_implies, imp_self, decide_true, decide_false, vbinB_ne, gb0_5, t1, t2, t3, t28]
  refine GO_call_eq (by (simp (maxSteps := 4000000) (disch := omega) only [Zq, evO, vbox, wr, Zeq, if_true, if_false, Nat.reduceEqDiff, Nat.reduceAdd, Nat.reduceLeDiff, Nat.reduceSub, and_self, and_true, true_and, reduceIte, reduceCtorEq, eq_self, implies_true, forall_const, false_implies, imp_self, decide_true, decide_false, t1, t2, t3, t28]) <;> rfl) ((toRunS_is H5 [v2] a2 (((rSlc rRun)).rdk h2 k0_5) ht2).mono ?_)
  rintro _ H6 ⟨k6, csy3, Fy3, rfl, oy3_6, fy3⟩
  have n6 := k6.nxt
  have gb0_6 := (k6.get H.nxt (by omega)).trans gb0_5
  have k0_6 := k0_5.trans k6
  have oy1_6 := (rNet).ownKeep oy1_5 k6
  have oy2_6 := ((rSlc rTrip)).ownKeep oy2_5 k6
  obtain ⟨vy3, rfl⟩ := slc_one (((rSlc rRun)).ownrd oy3_6)
  simp only [slc_val]
  simp (maxSteps := 4000000) (disch := omega) only [Zq, evO, vbox, wr, Zeq, if_true, if_false, Nat.reduceEqDiff, Nat.reduceAdd, Nat.reduceLeDiff, Nat.reduceSub, and_self, and_true, true_and, reduceIte, reduceCtorEq, eq_self, implies_true, forall_const, false_implies, imp_self, decide_true, decide_false, vbinB_ne, gb0_6, t1, t2, t3, t28]
  refine GO_call_eq (by (simp (maxSteps := 4000000) (disch := omega) only [Zq, evO, vbox, wr, Zeq, if_true, if_false, Nat.reduceEqDiff, Nat.reduceAdd, Nat.reduceLeDiff, Nat.reduceSub, and_self, and_true, true_and, reduceIte, reduceCtorEq, eq_self, implies_true, forall_const, false_implies, imp_self, decide_true, decide_false, t1, t2, t3, t28]) <;> rfl) ((r_spec_Apart (net_law ((rNet).ownrd oy1_6) ht0).1 (net_law ((rNet).ownrd oy1_6) ht0).2 (((rSlc rTrip)).ownrd oy2_6) ht1 (((rSlc rRun)).ownrd oy3_6) (tot_len ht2)).mono ?_)
  rintro _ H7 ⟨k7, rfl⟩
  have n7 := k7.nxt
  have gb0_7 := (k7.get H.nxt (by omega)).trans gb0_6
  have k0_7 := k0_6.trans k7
  have oy1_7 := (rNet).ownKeep oy1_6 k7
  have oy2_7 := ((rSlc rTrip)).ownKeep oy2_6 k7
  have oy3_7 := ((rSlc rRun)).ownKeep oy3_6 k7
  simp (maxSteps := 4000000) (disch := omega) only [Zq, evO, vbox, wr, Zeq, if_true, if_false, Nat.reduceEqDiff, Nat.reduceAdd, Nat.reduceLeDiff, Nat.reduceSub, and_self, and_true, true_and, reduceIte, reduceCtorEq, eq_self, implies_true, forall_const, false_implies, imp_self, decide_true, decide_false, vbinB_ne, gb0_7, t1, t2, t3, t28]
  first | refine G_fix [1, 2, 3, 8, 35] ?_ | refine GO_fix [1, 2, 3, 8, 35] ?_ | refine cK_fix [1, 2, 3, 8, 35] ?_
  intro T hT
  simp only [fix_nil, fix_cons, Zq, evO, vbox, wr, Zeq, if_true, if_false, Nat.reduceEqDiff, Nat.reduceAdd, Nat.reduceLeDiff, Nat.reduceSub, and_self, and_true, true_and, reduceIte, reduceCtorEq, eq_self, implies_true, forall_const, false_implies, imp_self, decide_true, decide_false, t1, t2, t3, t28] at hT
  obtain ⟨t1, t2, t3, t8, t35⟩ := hT
  refine GO_call_eq (by (simp (maxSteps := 4000000) (disch := omega) only [Zq, evO, vbox, wr, Zeq, if_true, if_false, Nat.reduceEqDiff, Nat.reduceAdd, Nat.reduceLeDiff, Nat.reduceSub, and_self, and_true, true_and, reduceIte, reduceCtorEq, eq_self, implies_true, forall_const, false_implies, imp_self, decide_true, decide_false, t1, t2, t3, t8, t35]) <;> rfl) ((toNet_is H7 [.int .i64 (a0).1, v0_1] a0 ((rNet).rdk h0 k0_7) ht0).mono ?_)
  rintro _ H8 ⟨k8, csy5, Fy5, rfl, oy5_8, fy5⟩
  have n8 := k8.nxt
  have gb0_8 := (k8.get H.nxt (by omega)).trans gb0_7
  have k0_8 := k0_7.trans k8
  obtain ⟨vy5_1, rfl, _⟩ := net_rd (x0 := (a0).1) (x1 := (a0).2) ((rNet).ownrd oy5_8)
  simp only [net_val]
  simp (maxSteps := 4000000) (disch := omega) only [Zq, evO, vbox, wr, Zeq, if_true, if_false, Nat.reduceEqDiff, Nat.reduceAdd, Nat.reduceLeDiff, Nat.reduceSub, and_self, and_true, true_and, reduceIte, reduceCtorEq, eq_self, implies_true, forall_const, false_implies, imp_self, decide_true, decide_false, vbinB_ne, gb0_8, t1, t2, t3, t8, t35]
  generalize hG9 : ((H8.push [.int .i64 0, .slice none 0 0]).set H8.nxt [.int .i64 (a0).1, vy5_1]) = H9
  have k9 : Keep H8 H9 := by rw [← hG9]; repeat' (first | exact Keep.refl _ | assumption | refine Keep.push' ?_ | refine Keep.set' ?_ ?_ | refine Keep.moved' ?_ ?_ | omega)
  have gx6_9 : H9.get H8.nxt = some (.own [.int .i64 (a0).1, vy5_1]) := by rw [← hG9]; simp (maxSteps := 4000000) (disch := omega) only [Zq, evO, vbox, wr, Zeq, if_true, if_false, Nat.reduceEqDiff, Nat.reduceAdd, Nat.reduceLeDiff, Nat.reduceSub, and_self, and_true, true_and, reduceIte, reduceCtorEq, eq_self, implies_true, forall_const, false_implies, imp_self, decide_true, decide_false]
  have nn9 : H8.nxt + 1 = H9.nxt := by rw [← hG9]; simp only [Zbh, Zbg]
  have n9 := k9.nxt
  have gb0_9 := (k9.get H.nxt (by omega)).trans gb0_8
  have k0_9 := k0_8.trans k9
  have oy5_9 := (rNet).ownKeep oy5_8 k9
  try simp (maxSteps := 4000000) (disch := omega) only [Zq, evO, vbox, wr, Zeq, if_true, if_false, Nat.reduceEqDiff, Nat.reduceAdd, Nat.reduceLeDiff, Nat.reduceSub, and_self, and_true, true_and, reduceIte, reduceCtorEq, eq_self, implies_true, forall_const, false_implies, imp_self, decide_true, decide_false, vbinB_ne, gb0_9, gx6_9, t1, t2, t3, t8, t35]
  refine GO_call_eq (by (simp (maxSteps := 4000000) (disch := omega) only [Zq, evO, vbox, wr, Zeq, if_true, if_false, Nat.reduceEqDiff, Nat.reduceAdd, Nat.reduceLeDiff, Nat.reduceSub, and_self, and_true, true_and, reduceIte, reduceCtorEq, eq_self, implies_true, forall_const, false_implies, imp_self, decide_true, decide_false, t1, t2, t3, t8, t35]) <;> rfl) ((toTripS_is H9 [v1] a1 (((rSlc rTrip)).rdk h1 k0_9) ht1).mono ?_)
  rintro _ H10 ⟨k10, csy7, Fy7, rfl, oy7_10, fy7⟩
  have n10 := k10.nxt
  have gb0_10 := (k10.get H.nxt (by omega)).trans gb0_9
  have gx6_10 := (k10.get H8.nxt (by omega)).trans gx6_9
  have k0_10 := k0_9.trans k10
  have oy5_10 := (rNet).ownKeep oy5_9 k10
  obtain ⟨vy7, rfl⟩ := slc_one (((rSlc rTrip)).ownrd oy7_10)
  simp only [slc_val]
  simp (maxSteps := 4000000) (disch := omega) only [Zq, evO, vbox, wr, Zeq, if_true, if_false, Nat.reduceEqDiff, Nat.reduceAdd, Nat.reduceLeDiff, Nat.reduceSub, and_self, and_true, true_and, reduceIte, reduceCtorEq, eq_self, implies_true, forall_const, false_implies, imp_self, decide_true, decide_false, vbinB_ne, gb0_10, gx6_10, t1, t2, t3, t8, t35]
  refine GO_call_eq (by (simp (maxSteps := 4000000) (disch := omega) only [Zq, evO, vbox, wr, Zeq, if_true, if_false, Nat.reduceEqDiff, Nat.reduceAdd, Nat.reduceLeDiff, Nat.reduceSub, and_self, and_true, true_and, reduceIte, reduceCtorEq, eq_self, implies_true, forall_const, false_implies, imp_self, decide_true, decide_false, t1, t2, t3, t8, t35]) <;> rfl) ((toRunS_is H10 [v2] a2 (((rSlc rRun)).rdk h2 k0_10) ht2).mono ?_)
  rintro _ H11 ⟨k11, csy8, Fy8, rfl, oy8_11, fy8⟩
  have n11 := k11.nxt
  have gb0_11 := (k11.get H.nxt (by omega)).trans gb0_10
  have gx6_11 := (k11.get H8.nxt (by omega)).trans gx6_10
  have k0_11 := k0_10.trans k11
  have oy5_11 := (rNet).ownKeep oy5_10 k11
  have oy7_11 := ((rSlc rTrip)).ownKeep oy7_10 k11
  obtain ⟨vy8, rfl⟩ := slc_one (((rSlc rRun)).ownrd oy8_11)
  simp only [slc_val]
  simp (maxSteps := 4000000) (disch := omega) only [Zq, evO, vbox, wr, Zeq, if_true, if_false, Nat.reduceEqDiff, Nat.reduceAdd, Nat.reduceLeDiff, Nat.reduceSub, and_self, and_true, true_and, reduceIte, reduceCtorEq, eq_self, implies_true, forall_const, false_implies, imp_self, decide_true, decide_false, vbinB_ne, gb0_11, gx6_11, t1, t2, t3, t8, t35]
  first | refine G_fix [1, 2, 3, 8, 9, 10, 11, 41, 42, 43] ?_ | refine GO_fix [1, 2, 3, 8, 9, 10, 11, 41, 42, 43] ?_ | refine cK_fix [1, 2, 3, 8, 9, 10, 11, 41, 42, 43] ?_
  intro T hT
  simp only [fix_nil, fix_cons, Zq, evO, vbox, wr, Zeq, if_true, if_false, Nat.reduceEqDiff, Nat.reduceAdd, Nat.reduceLeDiff, Nat.reduceSub, and_self, and_true, true_and, reduceIte, reduceCtorEq, eq_self, implies_true, forall_const, false_implies, imp_self, decide_true, decide_false, t1, t2, t3, t8, t35] at hT
  obtain ⟨t1, t2, t3, t8, t9, t10, t11, t41, t42, t43⟩ := hT
  refine GO_call_eq (by (simp (maxSteps := 4000000) (disch := omega) only [Zq, evO, vbox, wr, Zeq, if_true, if_false, Nat.reduceEqDiff, Nat.reduceAdd, Nat.reduceLeDiff, Nat.reduceSub, and_self, and_true, true_and, reduceIte, reduceCtorEq, eq_self, implies_true, forall_const, false_implies, imp_self, decide_true, decide_false, t1, t2, t3, t8, t9, t10, t11, t41, t42, t43]) <;> rfl) ((r_impl_Apart (net_law ((rNet).ownrd oy5_11) ht0).1 (net_law ((rNet).ownrd oy5_11) ht0).2 (((rSlc rTrip)).ownrd oy7_11) ht1 (((rSlc rRun)).ownrd oy8_11) (tot_len ht2)).mono ?_)
  rintro _ H12 ⟨k12, rfl⟩
  have n12 := k12.nxt
  have gb0_12 := (k12.get H.nxt (by omega)).trans gb0_11
  have gx6_12 := (k12.get H8.nxt (by omega)).trans gx6_11
  have k0_12 := k0_11.trans k12
  have oy5_12 := (rNet).ownKeep oy5_11 k12
  have oy7_12 := ((rSlc rTrip)).ownKeep oy7_11 k12
  have oy8_12 := ((rSlc rRun)).ownKeep oy8_11 k12
  simp (maxSteps := 4000000) (disch := omega) only [Zq, evO, vbox, wr, Zeq, if_true, if_false, Nat.reduceEqDiff, Nat.reduceAdd, Nat.reduceLeDiff, Nat.reduceSub, and_self, and_true, true_and, reduceIte, reduceCtorEq, eq_self, implies_true, forall_const, false_implies, imp_self, decide_true, decide_false, vbinB_ne, gb0_12, gx6_12, t1, t2, t3, t8, t9, t10, t11, t41, t42, t43]
  simp (maxSteps := 4000000) (disch := omega) only [ZD, Zio, Zip, pre_, beq_self_eq_true, Nat.reduceBEq, Zq, evO, vbox, wr, Zeq, if_true, if_false, Nat.reduceEqDiff, Nat.reduceAdd, Nat.reduceLeDiff, Nat.reduceSub, and_self, and_true, true_and, reduceIte, reduceCtorEq, eq_self, implies_true, forall_const, false_implies, imp_self, decide_true, decide_false, G_dreg, vbinB_ne, gb0_12, gx6_12, t1, t2, t3, t8, t9, t10, t11, t41, t42, t43]
  refine GD_call_eq (by (simp (maxSteps := 4000000) (disch := omega) only [Zq, evO, vbox, wr, Zeq, if_true, if_false, Nat.reduceEqDiff, Nat.reduceAdd, Nat.reduceLeDiff, Nat.reduceSub, and_self, and_true, true_and, reduceIte, reduceCtorEq, eq_self, implies_true, forall_const, false_implies, imp_self, decide_true, decide_false, t1, t2, t3, t8, t9, t10, t11, t41, t42, t43]) <;> rfl) ((toNet_is H12 [.int .i64 (a0).1, v0_1] a0 ((rNet).rdk h0 k0_12) ht0).mono ?_)
  rintro _ H13 ⟨k13, csy10, Fy10, rfl, oy10_13, fy10⟩
  have n13 := k13.nxt
  have gb0_13 := (k13.get H.nxt (by omega)).trans gb0_12
  have gx6_13 := (k13.get H8.nxt (by omega)).trans gx6_12
  have k0_13 := k0_12.trans k13
  have oy5_13 := (rNet).ownKeep oy5_12 k13
  have oy7_13 := ((rSlc rTrip)).ownKeep oy7_12 k13
  have oy8_13 := ((rSlc rRun)).ownKeep oy8_12 k13
  obtain ⟨vy10_1, rfl, _⟩ := net_rd (x0 := (a0).1) (x1 := (a0).2) ((rNet).ownrd oy10_13)
  simp only [net_val]
  simp (maxSteps := 4000000) (disch := omega) only [ZD, Zio, Zip, pre_, beq_self_eq_true, Nat.reduceBEq, Zq, evO, vbox, wr, Zeq, if_true, if_false, Nat.reduceEqDiff, Nat.reduceAdd, Nat.reduceLeDiff, Nat.reduceSub, and_self, and_true, true_and, reduceIte, reduceCtorEq, eq_self, implies_true, forall_const, false_implies, imp_self, decide_true, decide_false, vbinB_ne, gb0_13, gb0_12, gx6_13, gx6_12, t1, t2, t3, t8, t9, t10, t11, t41, t42, t43]
  refine GD_call_eq (by (simp (maxSteps := 4000000) (disch := omega) only [Zq, evO, vbox, wr, Zeq, if_true, if_false, Nat.reduceEqDiff, Nat.reduceAdd, Nat.reduceLeDiff, Nat.reduceSub, and_self, and_true, true_and, reduceIte, reduceCtorEq, eq_self, implies_true, forall_const, false_implies, imp_self, decide_true, decide_false, t1, t2, t3, t8, t9, t10, t11, t41, t42, t43]) <;> rfl) ((eqNet_is H13 [.int .i64 (a0).1, vy5_1] [.int .i64 (a0).1, vy10_1] (a0) ((rNet).ownrd oy5_13) ((rNet).ownrd oy10_13) (by omega)).mono ?_)
  rintro _ H14 ⟨k14, rfl⟩
  have n14 := k14.nxt
  have gb0_14 := (k14.get H.nxt (by omega)).trans gb0_13
  have gx6_14 := (k14.get H8.nxt (by omega)).trans gx6_13
  have k0_14 := k0_13.trans k14
  have oy5_14 := (rNet).ownKeep oy5_13 k14
  have oy7_14 := ((rSlc rTrip)).ownKeep oy7_13 k14
  have oy8_14 := ((rSlc rRun)).ownKeep oy8_13 k14
  have oy10_14 := (rNet).ownKeep oy10_13 k14
  simp (maxSteps := 4000000) (disch := omega) only [ZD, Zio, Zip, pre_, beq_self_eq_true, Nat.reduceBEq, Zq, evO, vbox, wr, Zeq, if_true, if_false, Nat.reduceEqDiff, Nat.reduceAdd, Nat.reduceLeDiff, Nat.reduceSub, and_self, and_true, true_and, reduceIte, reduceCtorEq, eq_self, implies_true, forall_const, false_implies, imp_self, decide_true, decide_false, vbinB_ne, gb0_14, gb0_12, gb0_13, gx6_14, gx6_12, gx6_13, t1, t2, t3, t8, t9, t10, t11, t41, t42, t43]
  first | with_reducible refine And.intro (by repeat' (first | exact trivial | apply And.intro | omega | exact k13.get _ (by omega) | exact k14.get _ (by omega) | (simp only [Zbi, push_get']; split <;> first | omega | rfl))) ?_ | skip
  try simp (maxSteps := 4000000) (disch := omega) only [Zq, evO, vbox, wr, Zeq, if_true, if_false, Nat.reduceEqDiff, Nat.reduceAdd, Nat.reduceLeDiff, Nat.reduceSub, and_self, and_true, true_and, reduceIte, reduceCtorEq, eq_self, implies_true, forall_const, false_implies, imp_self, decide_true, decide_false, vbinB_ne, gb0_14, gx6_14, t1, t2, t3, t8, t9, t10, t11, t41, t42, t43]
  first | refine G_fix [2, 11, 53, 54] ?_ | refine GO_fix [2, 11, 53, 54] ?_ | refine cK_fix [2, 11, 53, 54] ?_
  intro T hT
  simp only [fix_nil, fix_cons, Zq, evO, vbox, wr, Zeq, if_true, if_false, Nat.reduceEqDiff, Nat.reduceAdd, Nat.reduceLeDiff, Nat.reduceSub, and_self, and_true, true_and, reduceIte, reduceCtorEq, eq_self, implies_true, forall_const, false_implies, imp_self, decide_true, decide_false, t1, t2, t3, t8, t9, t10, t11, t41, t42, t43] at hT
  obtain ⟨t2, t11, t53, t54⟩ := hT
  refine GO_call_eq (by (simp (maxSteps := 4000000) (disch := omega) only [Zq, evO, vbox, wr, Zeq, if_true, if_false, Nat.reduceEqDiff, Nat.reduceAdd, Nat.reduceLeDiff, Nat.reduceSub, and_self, and_true, true_and, reduceIte, reduceCtorEq, eq_self, implies_true, forall_const, false_implies, imp_self, decide_true, decide_false, t2, t11, t53, t54]) <;> rfl) ((toTripS_is H14 [v1] a1 (((rSlc rTrip)).rdk h1 k0_14) ht1).mono ?_)
  rintro _ H15 ⟨k15, csy11, Fy11, rfl, oy11_15, fy11⟩
  have n15 := k15.nxt
  have gb0_15 := (k15.get H.nxt (by omega)).trans gb0_14
  have gx6_15 := (k15.get H8.nxt (by omega)).trans gx6_14
  have k0_15 := k0_14.trans k15
  have oy5_15 := (rNet).ownKeep oy5_14 k15
  have oy7_15 := ((rSlc rTrip)).ownKeep oy7_14 k15
  have oy8_15 := ((rSlc rRun)).ownKeep oy8_14 k15
  obtain ⟨vy11, rfl⟩ := slc_one (((rSlc rTrip)).ownrd oy11_15)
  simp only [slc_val]
  simp (maxSteps := 4000000) (disch := omega) only [Zq, evO, vbox, wr, Zeq, if_true, if_false, Nat.reduceEqDiff, Nat.reduceAdd, Nat.reduceLeDiff, Nat.reduceSub, and_self, and_true, true_and, reduceIte, reduceCtorEq, eq_self, implies_true, forall_const, false_implies, imp_self, decide_true, decide_false, vbinB_ne, gb0_15, gx6_15, t2, t11, t53, t54]
  refine GO_call_eq (by (simp (maxSteps := 4000000) (disch := omega) only [Zq, evO, vbox, wr, Zeq, if_true, if_false, Nat.reduceEqDiff, Nat.reduceAdd, Nat.reduceLeDiff, Nat.reduceSub, and_self, and_true, true_and, reduceIte, reduceCtorEq, eq_self, implies_true, forall_const, false_implies, imp_self, decide_true, decide_false, t2, t11, t53, t54]) <;> rfl) ((eqTripS_is H15 [vy7] [vy11] (a1) (((rSlc rTrip)).ownrd oy7_15) (((rSlc rTrip)).ownrd oy11_15) (by omega)).mono ?_)
  rintro _ H16 ⟨k16, rfl⟩
  have n16 := k16.nxt
  have gb0_16 := (k16.get H.nxt (by omega)).trans gb0_15
  have gx6_16 := (k16.get H8.nxt (by omega)).trans gx6_15
  have k0_16 := k0_15.trans k16
  have oy5_16 := (rNet).ownKeep oy5_15 k16
  have oy7_16 := ((rSlc rTrip)).ownKeep oy7_15 k16
  have oy8_16 := ((rSlc rRun)).ownKeep oy8_15 k16
  have oy11_16 := ((rSlc rTrip)).ownKeep oy11_15 k16
  simp (maxSteps := 4000000) (disch := omega) only [Zq, evO, vbox, wr, Zeq, if_true, if_false, Nat.reduceEqDiff, Nat.reduceAdd, Nat.reduceLeDiff, Nat.reduceSub, and_self, and_true, true_and, reduceIte, reduceCtorEq, eq_self, implies_true, forall_const, false_implies, imp_self, decide_true, decide_false, vbinB_ne, gb0_16, gx6_16, t2, t11, t53, t54]
  refine GO_call_eq (by (simp (maxSteps := 4000000) (disch := omega) only [Zq, evO, vbox, wr, Zeq, if_true, if_false, Nat.reduceEqDiff, Nat.reduceAdd, Nat.reduceLeDiff, Nat.reduceSub, and_self, and_true, true_and, reduceIte, reduceCtorEq, eq_self, implies_true, forall_const, false_implies, imp_self, decide_true, decide_false, t2, t11, t53, t54]) <;> rfl) ((toRunS_is H16 [v2] a2 (((rSlc rRun)).rdk h2 k0_16) ht2).mono ?_)
  rintro _ H17 ⟨k17, csy12, Fy12, rfl, oy12_17, fy12⟩
  have n17 := k17.nxt
  have gb0_17 := (k17.get H.nxt (by omega)).trans gb0_16
  have gx6_17 := (k17.get H8.nxt (by omega)).trans gx6_16
  have k0_17 := k0_16.trans k17
  have oy5_17 := (rNet).ownKeep oy5_16 k17
  have oy7_17 := ((rSlc rTrip)).ownKeep oy7_16 k17
  have oy8_17 := ((rSlc rRun)).ownKeep oy8_16 k17
  obtain ⟨vy12, rfl⟩ := slc_one (((rSlc rRun)).ownrd oy12_17)
  simp only [slc_val]
  simp (maxSteps := 4000000) (disch := omega) only [Zq, evO, vbox, wr, Zeq, if_true, if_false, Nat.reduceEqDiff, Nat.reduceAdd, Nat.reduceLeDiff, Nat.reduceSub, and_self, and_true, true_and, reduceIte, reduceCtorEq, eq_self, implies_true, forall_const, false_implies, imp_self, decide_true, decide_false, vbinB_ne, gb0_17, gx6_17, t2, t11, t53, t54]
  refine GO_call_eq (by (simp (maxSteps := 4000000) (disch := omega) only [Zq, evO, vbox, wr, Zeq, if_true, if_false, Nat.reduceEqDiff, Nat.reduceAdd, Nat.reduceLeDiff, Nat.reduceSub, and_self, and_true, true_and, reduceIte, reduceCtorEq, eq_self, implies_true, forall_const, false_implies, imp_self, decide_true, decide_false, t2, t11, t53, t54]) <;> rfl) ((eqRunS_is H17 [vy8] [vy12] (a2) (((rSlc rRun)).ownrd oy8_17) (((rSlc rRun)).ownrd oy12_17) (by omega)).mono ?_)
  rintro _ H18 ⟨k18, rfl⟩
  have n18 := k18.nxt
  have gb0_18 := (k18.get H.nxt (by omega)).trans gb0_17
  have gx6_18 := (k18.get H8.nxt (by omega)).trans gx6_17
  have k0_18 := k0_17.trans k18
  have oy5_18 := (rNet).ownKeep oy5_17 k18
  have oy7_18 := ((rSlc rTrip)).ownKeep oy7_17 k18
  have oy8_18 := ((rSlc rRun)).ownKeep oy8_17 k18
  have oy12_18 := ((rSlc rRun)).ownKeep oy12_17 k18
  simp (maxSteps := 4000000) (disch := omega) only [Zq, evO, vbox, wr, Zeq, if_true, if_false, Nat.reduceEqDiff, Nat.reduceAdd, Nat.reduceLeDiff, Nat.reduceSub, and_self, and_true, true_and, reduceIte, reduceCtorEq, eq_self, implies_true, forall_const, false_implies, imp_self, decide_true, decide_false, vbinB_ne, gb0_18, gx6_18, t2, t11, t53, t54]
theorem good_Int {H : Heap} {n : Nat} {xs : List Value} (h : Good Try.prog H n 3 xs) : ∃ a, (rInt).rd H xs a ∧ (rInt).fit a := by
  obtain ⟨z, rfl, _⟩ := good_int (k := .i64) (by kernel_rfl) h
  exact ⟨z, rfl, trivial⟩
theorem good_Edge {H : Heap} {n : Nat} {xs : List Value} (h : Good Try.prog H n 126 xs) : ∃ a, (rEdge).rd H xs a ∧ (rEdge).fit a := by
  have hl := good_cells (c := 4) (by kernel_rfl) (by kernel_rfl) h
  obtain ⟨c0, c1, c2, c3, rfl⟩ : ∃ c0 c1 c2 c3, xs = [c0, c1, c2, c3] := by
    match xs, hl with
    | [c0, c1, c2, c3], _ => exact ⟨c0, c1, c2, c3, rfl⟩
  obtain ⟨_, f0⟩ := good_field (i := 0) (t' := 3) (o := 0) (c := 1) (by kernel_rfl) h
  obtain ⟨y0, r0, t0⟩ := good_Int f0
  obtain ⟨_, f1⟩ := good_field (i := 1) (t' := 3) (o := 1) (c := 1) (by kernel_rfl) h
  obtain ⟨y1, r1, t1⟩ := good_Int f1
  obtain ⟨_, f2⟩ := good_field (i := 2) (t' := 3) (o := 2) (c := 1) (by kernel_rfl) h
  obtain ⟨y2, r2, t2⟩ := good_Int f2
  obtain ⟨_, f3⟩ := good_field (i := 3) (t' := 3) (o := 3) (c := 1) (by kernel_rfl) h
  obtain ⟨y3, r3, t3⟩ := good_Int f3
  have e0 : c0 = .int .i64 y0 := by have := r0; simpa [leafRep] using this
  subst e0
  have e1 : c1 = .int .i64 y1 := by have := r1; simpa [leafRep] using this
  subst e1
  have e2 : c2 = .int .i64 y2 := by have := r2; simpa [leafRep] using this
  subst e2
  have e3 : c3 = .int .i64 y3 := by have := r3; simpa [leafRep] using this
  subst e3
  exact ⟨(y0, y1, y2, y3), rfl, trivial⟩
theorem good_EdgeS {H : Heap} {n : Nat} {xs : List Value} (h : Good Try.prog H n 51 xs) : ∃ a, ((rSlc rEdge)).rd H xs a ∧ ((rSlc rEdge)).fit a :=
  good_slcs (e := 126) (c := 4) (by kernel_rfl) (by kernel_rfl) (fun m row _ hg => good_Edge hg) rfl h
theorem good_Net {H : Heap} {n : Nat} {xs : List Value} (h : Good Try.prog H n 53 xs) : ∃ a, (rNet).rd H xs a ∧ (rNet).fit a := by
  have hl := good_cells (c := 2) (by kernel_rfl) (by kernel_rfl) h
  obtain ⟨c0, c1, rfl⟩ : ∃ c0 c1, xs = [c0, c1] := by
    match xs, hl with
    | [c0, c1], _ => exact ⟨c0, c1, rfl⟩
  obtain ⟨_, f0⟩ := good_field (i := 0) (t' := 3) (o := 0) (c := 1) (by kernel_rfl) h
  obtain ⟨y0, r0, t0⟩ := good_Int f0
  obtain ⟨_, f1⟩ := good_field (i := 1) (t' := 51) (o := 1) (c := 1) (by kernel_rfl) h
  obtain ⟨y1, r1, t1⟩ := good_EdgeS f1
  exact ⟨(y0, y1), ⟨[c0], _, rfl, r0, r1⟩, t0, t1⟩
theorem good_Str {H : Heap} {n : Nat} {xs : List Value} (h : Good Try.prog H n 9 xs) : ∃ a, (rStr).rd H xs a ∧ (rStr).fit a := by
  obtain ⟨z, rfl, hz⟩ := good_str (by kernel_rfl) h
  exact ⟨z, rfl, hz⟩
theorem good_Call {H : Heap} {n : Nat} {xs : List Value} (h : Good Try.prog H n 140 xs) : ∃ a, (rCall).rd H xs a ∧ (rCall).fit a := by
  have hl := good_cells (c := 3) (by kernel_rfl) (by kernel_rfl) h
  obtain ⟨c0, c1, c2, rfl⟩ : ∃ c0 c1 c2, xs = [c0, c1, c2] := by
    match xs, hl with
    | [c0, c1, c2], _ => exact ⟨c0, c1, c2, rfl⟩
  obtain ⟨_, f0⟩ := good_field (i := 0) (t' := 3) (o := 0) (c := 1) (by kernel_rfl) h
  obtain ⟨y0, r0, t0⟩ := good_Int f0
  obtain ⟨_, f1⟩ := good_field (i := 1) (t' := 3) (o := 1) (c := 1) (by kernel_rfl) h
  obtain ⟨y1, r1, t1⟩ := good_Int f1
  obtain ⟨_, f2⟩ := good_field (i := 2) (t' := 3) (o := 2) (c := 1) (by kernel_rfl) h
  obtain ⟨y2, r2, t2⟩ := good_Int f2
  have e0 : c0 = .int .i64 y0 := by have := r0; simpa [leafRep] using this
  subst e0
  have e1 : c1 = .int .i64 y1 := by have := r1; simpa [leafRep] using this
  subst e1
  have e2 : c2 = .int .i64 y2 := by have := r2; simpa [leafRep] using this
  subst e2
  exact ⟨(y0, y1, y2), rfl, trivial⟩
theorem good_CallS {H : Heap} {n : Nat} {xs : List Value} (h : Good Try.prog H n 93 xs) : ∃ a, ((rSlc rCall)).rd H xs a ∧ ((rSlc rCall)).fit a :=
  good_slcs (e := 140) (c := 3) (by kernel_rfl) (by kernel_rfl) (fun m row _ hg => good_Call hg) rfl h
theorem good_Trip {H : Heap} {n : Nat} {xs : List Value} (h : Good Try.prog H n 95 xs) : ∃ a, (rTrip).rd H xs a ∧ (rTrip).fit a := by
  have hl := good_cells (c := 2) (by kernel_rfl) (by kernel_rfl) h
  obtain ⟨c0, c1, rfl⟩ : ∃ c0 c1, xs = [c0, c1] := by
    match xs, hl with
    | [c0, c1], _ => exact ⟨c0, c1, rfl⟩
  obtain ⟨_, f0⟩ := good_field (i := 0) (t' := 9) (o := 0) (c := 1) (by kernel_rfl) h
  obtain ⟨y0, r0, t0⟩ := good_Str f0
  obtain ⟨_, f1⟩ := good_field (i := 1) (t' := 93) (o := 1) (c := 1) (by kernel_rfl) h
  obtain ⟨y1, r1, t1⟩ := good_CallS f1
  exact ⟨(y0, y1), ⟨[c0], _, rfl, r0, r1⟩, t0, t1⟩
theorem good_TripS {H : Heap} {n : Nat} {xs : List Value} (h : Good Try.prog H n 54 xs) : ∃ a, ((rSlc rTrip)).rd H xs a ∧ ((rSlc rTrip)).fit a :=
  good_slcs (e := 95) (c := 2) (by kernel_rfl) (by kernel_rfl) (fun m row _ hg => good_Trip hg) rfl h
theorem good_Run {H : Heap} {n : Nat} {xs : List Value} (h : Good Try.prog H n 105 xs) : ∃ a, (rRun).rd H xs a ∧ (rRun).fit a := by
  have hl := good_cells (c := 4) (by kernel_rfl) (by kernel_rfl) h
  obtain ⟨c0, c1, c2, c3, rfl⟩ : ∃ c0 c1 c2 c3, xs = [c0, c1, c2, c3] := by
    match xs, hl with
    | [c0, c1, c2, c3], _ => exact ⟨c0, c1, c2, c3, rfl⟩
  obtain ⟨_, f0⟩ := good_field (i := 0) (t' := 3) (o := 0) (c := 1) (by kernel_rfl) h
  obtain ⟨y0, r0, t0⟩ := good_Int f0
  obtain ⟨_, f1⟩ := good_field (i := 1) (t' := 3) (o := 1) (c := 1) (by kernel_rfl) h
  obtain ⟨y1, r1, t1⟩ := good_Int f1
  obtain ⟨_, f2⟩ := good_field (i := 2) (t' := 3) (o := 2) (c := 1) (by kernel_rfl) h
  obtain ⟨y2, r2, t2⟩ := good_Int f2
  obtain ⟨_, f3⟩ := good_field (i := 3) (t' := 3) (o := 3) (c := 1) (by kernel_rfl) h
  obtain ⟨y3, r3, t3⟩ := good_Int f3
  have e0 : c0 = .int .i64 y0 := by have := r0; simpa [leafRep] using this
  subst e0
  have e1 : c1 = .int .i64 y1 := by have := r1; simpa [leafRep] using this
  subst e1
  have e2 : c2 = .int .i64 y2 := by have := r2; simpa [leafRep] using this
  subst e2
  have e3 : c3 = .int .i64 y3 := by have := r3; simpa [leafRep] using this
  subst e3
  exact ⟨(y0, y1, y2, y3), rfl, trivial⟩
theorem good_RunS {H : Heap} {n : Nat} {xs : List Value} (h : Good Try.prog H n 69 xs) : ∃ a, ((rSlc rRun)).rd H xs a ∧ ((rSlc rRun)).fit a :=
  good_slcs (e := 105) (c := 4) (by kernel_rfl) (by kernel_rfl) (fun m row _ hg => good_Run hg) rfl h
theorem go_laws_FnExactApart (H : Heap) (xs : List Value) (h : GoodArgs Try.prog H Try.f13.params.toList xs) : ∃ H', CR Try.prog 13 xs H (.bool true) H' := by
  rw [Try.params13] at h
  obtain ⟨w0, l0, rfl, p0, j0⟩ := good_args_cons h
  obtain ⟨w1, l1, rfl, p1, j1⟩ := good_args_cons j0
  obtain ⟨w2, l2, rfl, p2, j2⟩ := good_args_cons j1
  obtain rfl := good_args_nil j2
  obtain ⟨ys0, n0, rfl, g0⟩ := goodV_agg (by kernel_rfl) p0
  obtain ⟨a0, e0, t0⟩ := good_Net g0
  obtain ⟨v0_1, rfl, _⟩ := net_rd (x0 := (a0).1) (x1 := (a0).2) e0
  obtain ⟨_, g1⟩ := goodV_one (by kernel_rfl) p1
  obtain ⟨a1, e1, t1⟩ := good_TripS g1
  obtain ⟨_, g2⟩ := goodV_one (by kernel_rfl) p2
  obtain ⟨a2, e2, t2⟩ := good_RunS g2
  obtain ⟨r, H', hr, rfl⟩ := r_laws_FnExactApart  e0 t0 e1 t1 e2 t2
  exact ⟨H', hr⟩
end Go.Proofs.Ytjjglonmaajjoaa.AX
