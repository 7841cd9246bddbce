/- FnExactPlayLock: the law's run. No condition; of the program: the functions' forms. -/
import Derived.Test.YthjphddodooahaaPlq
namespace Go.Proofs.Ythjphddodooahaa.AX
open Go
set_option maxRecDepth 10000
set_option maxHeartbeats 4000000
set_option linter.unusedSimpArgs false
set_option linter.unusedVariables false
theorem pkR_tot {p : List Int × Int × List Rt} {ops : List (Int × Int)} : rLocking.tot (pkR p ops).1 ≤ 1048576 := by
  unfold pkR
  split
  · rename_i h
    have := (lkGo_ok (ops := ops) h.1 ops.length (Nat.le_refl _)).1
    rw [List.take_length] at this
    exact Nat.le_trans (lk_small this) (by omega)
  · rw [locking_tot]
    repeat rw [leaf_tot]
    simp
theorem pkR_len {p : List Int × Int × List Rt} {ops : List (Int × Int)} : (rSlc rInt).tot (pkR p ops).2 ≤ 300 := by
  rw [leaf_tot]
  unfold pkR
  split
  · rename_i h
    have := (lkGo_ok (ops := ops) h.1 ops.length (Nat.le_refl _)).2
    rw [List.take_length] at this
    omega
  · simp
theorem pk_law {H : Heap} {vu vr w : Value} {p : List Int × Int × List Rt} {ops : List (Int × Int)} (h : rPlant.rd H [vu, .int .i64 p.2.1, vr] p) (h3 : (rSlc rLockOp).rd H [w] ops) (ht : rPlant.tot p ≤ 1048576) (hl : (rSlc rLockOp).tot ops ≤ 1048576) {f : FuncId} (hf : ∀ {under : List Int} {b : Int} {routes : List Rt}, (rSlc rInt).rd H [vu] under → (rSlc rRoute).rd H [vr] routes → (rSlc rLockOp).rd H [w] ops → rPlant.tot (under, b, routes) ≤ 1048576 → ops.length ≤ 1048576 → Run Try.prog f [.agg #[vu, .int .i64 b, vr], w] H fun r H' => Keep H H' ∧ ∃ cs F cs1 F1, r = .tuple #[rLocking.val cs, (rSlc rInt).val cs1] ∧ rLocking.own H' cs (pkR (under, b, routes) ops).1 F ∧ Fresh H H' F ∧ (rSlc rInt).own H' cs1 (pkR (under, b, routes) ops).2 F1 ∧ Fresh H H' F1 ∧ ∀ i ∈ F, i ∉ F1) :
    Run Try.prog f [.agg #[vu, .int .i64 p.2.1, vr], w] H fun r H' => Keep H H' ∧ ∃ cs F cs1 F1, r = .tuple #[rLocking.val cs, (rSlc rInt).val cs1] ∧ rLocking.own H' cs (pkR p ops).1 F ∧ Fresh H H' F ∧ (rSlc rInt).own H' cs1 (pkR p ops).2 F1 ∧ Fresh H H' F1 ∧ ∀ i ∈ F, i ∉ F1 := by
  obtain ⟨a, c, e, q1, q2⟩ := plant_rd (x0 := p.1) (x1 := p.2.1) (x2 := p.2.2) h
  simp only [List.cons.injEq, and_true, true_and] at e
  obtain ⟨rfl, rfl⟩ := e
  exact hf q1 q2 h3 ht (tot_len hl)
theorem r_laws_FnExactPlayLock {H : Heap} {v0_0 v0_2 : Value} {a0 : (List Int) × Int × (List ((List (Int × Int)) × (List Int)))} {v1 : Value} {a1 : List (Int × Int)} (h0 : (rPlant).rd H [v0_0, .int .i64 (a0).2.1, v0_2] a0) (fit0 : (rPlant).fit a0) (h1 : ((rSlc rLockOp)).rd H [v1] a1) (fit1 : ((rSlc rLockOp)).fit a1) : Run Try.prog 9 [.agg #[v0_0, .int .i64 (a0).2.1, v0_2], v1] H fun r _ => r = .bool true := by
  refine Run.intro c9 rfl ?_
  simp (maxSteps := 4000000) (disch := omega) only [Zq, evO, vbox, wr, Zeq, if_true, if_false, Nat.reduceEqDiff, Nat.reduceAdd, Nat.reduceLeDiff, Nat.reduceSub, and_self, and_true, true_and, reduceIte, reduceCtorEq, eq_self, implies_true, forall_const, false_implies, imp_self, decide_true, decide_false, x9]
  generalize hG0 : (H.push [v0_0, .int .i64 (a0).2.1, v0_2]) = H0
  have k0_0 : Keep H H0 := by rw [← hG0]; repeat' (first | exact Keep.refl _ | assumption | refine Keep.push' ?_ | refine Keep.set' ?_ ?_ | refine Keep.moved' ?_ ?_ | omega)
  have gb0_0 : H0.get H.nxt = some (.own [v0_0, .int .i64 (a0).2.1, v0_2]) := by rw [← hG0]; simp (maxSteps := 4000000) (disch := omega) only [Zq, evO, vbox, wr, Zeq, if_true, if_false, Nat.reduceEqDiff, Nat.reduceAdd, Nat.reduceLeDiff, Nat.reduceSub, and_self, and_true, true_and, reduceIte, reduceCtorEq, eq_self, implies_true, forall_const, false_implies, imp_self, decide_true, decide_false]
  have nn0 : H.nxt + 1 = H0.nxt := by rw [← hG0]; simp only [Zbg]
  refine GO_call ((szPlant_is H0 [v0_0, .int .i64 (a0).2.1, v0_2] a0 1048576 ((rPlant).rdk h0 k0_0) fit0 (by omega)).mono ?_)
  rintro w H1 ⟨k1, hw⟩
  have n1 := k1.nxt
  have gb0_1 := (k1.get H.nxt (by omega)).trans gb0_0
  have k0_1 := k0_0.trans k1
  rcases hw with rfl | ⟨q0, rfl, hq0⟩
  · simp (maxSteps := 4000000) (disch := omega) only [Zq, evO, vbox, wr, Zeq, if_true, if_false, Nat.reduceEqDiff, Nat.reduceAdd, Nat.reduceLeDiff, Nat.reduceSub, and_self, and_true, true_and, reduceIte, reduceCtorEq, eq_self, implies_true, forall_const, false_implies, imp_self, decide_true, decide_false, vbinB_ne, gb0_1]
  simp (maxSteps := 4000000) (disch := omega) only [Zq, evO, vbox, wr, Zeq, if_true, if_false, Nat.reduceEqDiff, Nat.reduceAdd, Nat.reduceLeDiff, Nat.reduceSub, and_self, and_true, true_and, reduceIte, reduceCtorEq, eq_self, implies_true, forall_const, false_implies, imp_self, decide_true, decide_false, vbinB_ne, gb0_1]
  have ht0 : (rPlant).tot a0 ≤ 1048576 := by omega
  first | refine G_fix [1, 2, 22, 23] ?_ | refine GO_fix [1, 2, 22, 23] ?_ | refine cK_fix [1, 2, 22, 23] ?_
  intro T hT
  simp only [fix_nil, fix_cons, Zq, evO, vbox, wr, Zeq, if_true, if_false, Nat.reduceEqDiff, Nat.reduceAdd, Nat.reduceLeDiff, Nat.reduceSub, and_self, and_true, true_and, reduceIte, reduceCtorEq, eq_self, implies_true, forall_const, false_implies, imp_self, decide_true, decide_false] at hT
  obtain ⟨t1, t2, t22, t23⟩ := hT
  refine GO_call_eq (by (simp (maxSteps := 4000000) (disch := omega) only [Zq, evO, vbox, wr, Zeq, if_true, if_false, Nat.reduceEqDiff, Nat.reduceAdd, Nat.reduceLeDiff, Nat.reduceSub, and_self, and_true, true_and, reduceIte, reduceCtorEq, eq_self, implies_true, forall_const, false_implies, imp_self, decide_true, decide_false, t1, t2, t22, t23]) <;> rfl) ((szLockOpS_is H1 [v1] a1 q0 (((rSlc rLockOp)).rdk h1 k0_1) fit1 (by omega)).mono ?_)
  rintro w H2 ⟨k2, hw⟩
  have n2 := k2.nxt
  have gb0_2 := (k2.get H.nxt (by omega)).trans gb0_1
  have k0_2 := k0_1.trans k2
  rcases hw with rfl | ⟨q1, rfl, hq1⟩
  · simp (maxSteps := 4000000) (disch := omega) only [Zq, evO, vbox, wr, Zeq, if_true, if_false, Nat.reduceEqDiff, Nat.reduceAdd, Nat.reduceLeDiff, Nat.reduceSub, and_self, and_true, true_and, reduceIte, reduceCtorEq, eq_self, implies_true, forall_const, false_implies, imp_self, decide_true, decide_false, vbinB_ne, gb0_2, t1, t2, t22, t23]
  simp (maxSteps := 4000000) (disch := omega) only [Zq, evO, vbox, wr, Zeq, if_true, if_false, Nat.reduceEqDiff, Nat.reduceAdd, Nat.reduceLeDiff, Nat.reduceSub, and_self, and_true, true_and, reduceIte, reduceCtorEq, eq_self, implies_true, forall_const, false_implies, imp_self, decide_true, decide_false, vbinB_ne, gb0_2, t1, t2, t22, t23]
  have ht1 : ((rSlc rLockOp)).tot a1 ≤ 1048576 := by omega
  refine GO_call_eq (by (simp (maxSteps := 4000000) (disch := omega) only [Zq, evO, vbox, wr, Zeq, if_true, if_false, Nat.reduceEqDiff, Nat.reduceAdd, Nat.reduceLeDiff, Nat.reduceSub, and_self, and_true, true_and, reduceIte, reduceCtorEq, eq_self, implies_true, forall_const, false_implies, imp_self, decide_true, decide_false, t1, t2, t22, t23]) <;> rfl) ((toPlant_is H2 [v0_0, .int .i64 (a0).2.1, v0_2] a0 ((rPlant).rdk h0 k0_2) ht0).mono ?_)
  rintro _ H3 ⟨k3, csy1, Fy1, rfl, oy1_3, fy1⟩
  have n3 := k3.nxt
  have gb0_3 := (k3.get H.nxt (by omega)).trans gb0_2
  have k0_3 := k0_2.trans k3
  obtain ⟨vy1_0, vy1_2, rfl, _⟩ := plant_rd (x0 := (a0).1) (x1 := (a0).2.1) (x2 := (a0).2.2) ((rPlant).ownrd oy1_3)
  simp only [plant_val]
  simp (maxSteps := 4000000) (disch := omega) only [Zq, evO, vbox, wr, Zeq, if_true, if_false, Nat.reduceEqDiff, Nat.reduceAdd, Nat.reduceLeDiff, Nat.reduceSub, and_self, and_true, true_and, reduceIte, reduceCtorEq, eq_self, implies_true, forall_const, false_implies, imp_self, decide_true, decide_false, vbinB_ne, gb0_3, t1, t2, t22, t23]
  first | refine G_fix [1, 2, 29, 30] ?_ | refine GO_fix [1, 2, 29, 30] ?_ | refine cK_fix [1, 2, 29, 30] ?_
  intro T hT
  simp only [fix_nil, fix_cons, Zq, evO, vbox, wr, Zeq, if_true, if_false, Nat.reduceEqDiff, Nat.reduceAdd, Nat.reduceLeDiff, Nat.reduceSub, and_self, and_true, true_and, reduceIte, reduceCtorEq, eq_self, implies_true, forall_const, false_implies, imp_self, decide_true, decide_false, t1, t2, t22, t23] at hT
  obtain ⟨t1, t2, t29, t30⟩ := hT
  refine GO_call_eq (by (simp (maxSteps := 4000000) (disch := omega) only [Zq, evO, vbox, wr, Zeq, if_true, if_false, Nat.reduceEqDiff, Nat.reduceAdd, Nat.reduceLeDiff, Nat.reduceSub, and_self, and_true, true_and, reduceIte, reduceCtorEq, eq_self, implies_true, forall_const, false_implies, imp_self, decide_true, decide_false, t1, t2, t29, t30]) <;> rfl) ((toLockOpS_is H3 [v1] a1 (((rSlc rLockOp)).rdk h1 k0_3) ht1).mono ?_)
  rintro _ H4 ⟨k4, csy2, Fy2, rfl, oy2_4, fy2⟩
  have n4 := k4.nxt
  have gb0_4 := (k4.get H.nxt (by omega)).trans gb0_3
  have k0_4 := k0_3.trans k4
  have oy1_4 := (rPlant).ownKeep oy1_3 k4
  obtain ⟨vy2, rfl⟩ := slc_one (((rSlc rLockOp)).ownrd oy2_4)
  simp only [slc_val]
  simp (maxSteps := 4000000) (disch := omega) only [Zq, evO, vbox, wr, Zeq, if_true, if_false, Nat.reduceEqDiff, Nat.reduceAdd, Nat.reduceLeDiff, Nat.reduceSub, and_self, and_true, true_and, reduceIte, reduceCtorEq, eq_self, implies_true, forall_const, false_implies, imp_self, decide_true, decide_false, vbinB_ne, gb0_4, t1, t2, t29, t30]
  have hR0 : (rLocking).tot ((pkR a0 a1).1) ≤ 1048576 := pkR_tot
  have hR1 : ((rSlc rInt)).tot ((pkR a0 a1).2) ≤ 300 := pkR_len
  refine GO_call_eq (by (simp (maxSteps := 4000000) (disch := omega) only [Zq, evO, vbox, wr, Zeq, if_true, if_false, Nat.reduceEqDiff, Nat.reduceAdd, Nat.reduceLeDiff, Nat.reduceSub, and_self, and_true, true_and, reduceIte, reduceCtorEq, eq_self, implies_true, forall_const, false_implies, imp_self, decide_true, decide_false, t1, t2, t29, t30]) <;> rfl) ((pk_law ((rPlant).ownrd oy1_4) (((rSlc rLockOp)).ownrd oy2_4) ht0 ht1 r_spec_PlayLock).mono ?_)
  rintro _ H5 ⟨k5, csr30, Fr30, csr31, Fr31, rfl, or30_5, fr30, or31_5, fr31, djr301⟩
  have n5 := k5.nxt
  have gb0_5 := (k5.get H.nxt (by omega)).trans gb0_4
  have k0_5 := k0_4.trans k5
  have oy1_5 := (rPlant).ownKeep oy1_4 k5
  have oy2_5 := ((rSlc rLockOp)).ownKeep oy2_4 k5
  obtain ⟨vr30_0, vr30_1, vr30_2, rfl, _⟩ := locking_rd (x0 := ((pkR a0 a1).1).1) (x1 := ((pkR a0 a1).1).2.1) (x2 := ((pkR a0 a1).1).2.2) ((rLocking).ownrd or30_5)
  obtain ⟨vr31, rfl⟩ := slc_one (((rSlc rInt)).ownrd or31_5)
  simp only [locking_val, slc_val]
  simp (maxSteps := 4000000) (disch := omega) only [Zq, evO, vbox, wr, Zeq, if_true, if_false, Nat.reduceEqDiff, Nat.reduceAdd, Nat.reduceLeDiff, Nat.reduceSub, and_self, and_true, true_and, reduceIte, reduceCtorEq, eq_self, implies_true, forall_const, false_implies, imp_self, decide_true, decide_false, vbinB_ne, gb0_5, t1, t2, t29, t30]
  generalize hG6 : ((H5.push [.slice none 0 0, .slice none 0 0, .slice none 0 0]).set H5.nxt [vr30_0, vr30_1, vr30_2]) = H6
  have k6 : Keep H5 H6 := by rw [← hG6]; repeat' (first | exact Keep.refl _ | assumption | refine Keep.push' ?_ | refine Keep.set' ?_ ?_ | refine Keep.moved' ?_ ?_ | omega)
  have gx4_6 : H6.get H5.nxt = some (.own [vr30_0, vr30_1, vr30_2]) := by rw [← hG6]; simp (maxSteps := 4000000) (disch := omega) only [Zq, evO, vbox, wr, Zeq, if_true, if_false, Nat.reduceEqDiff, Nat.reduceAdd, Nat.reduceLeDiff, Nat.reduceSub, and_self, and_true, true_and, reduceIte, reduceCtorEq, eq_self, implies_true, forall_const, false_implies, imp_self, decide_true, decide_false]
  have nn6 : H5.nxt + 1 = H6.nxt := by rw [← hG6]; simp only [Zbh, Zbg]
  have n6 := k6.nxt
  have gb0_6 := (k6.get H.nxt (by omega)).trans gb0_5
  have k0_6 := k0_5.trans k6
  have or30_6 := (rLocking).ownKeep or30_5 k6
  have or31_6 := ((rSlc rInt)).ownKeep or31_5 k6
  try simp (maxSteps := 4000000) (disch := omega) only [Zq, evO, vbox, wr, Zeq, if_true, if_false, Nat.reduceEqDiff, Nat.reduceAdd, Nat.reduceLeDiff, Nat.reduceSub, and_self, and_true, true_and, reduceIte, reduceCtorEq, eq_self, implies_true, forall_const, false_implies, imp_self, decide_true, decide_false, vbinB_ne, gb0_6, gx4_6, t1, t2, t29, t30]
  first | refine G_fix [1, 2, 6, 7, 35] ?_ | refine GO_fix [1, 2, 6, 7, 35] ?_ | refine cK_fix [1, 2, 6, 7, 35] ?_
  intro T hT
  simp only [fix_nil, fix_cons, Zq, evO, vbox, wr, Zeq, if_true, if_false, Nat.reduceEqDiff, Nat.reduceAdd, Nat.reduceLeDiff, Nat.reduceSub, and_self, and_true, true_and, reduceIte, reduceCtorEq, eq_self, implies_true, forall_const, false_implies, imp_self, decide_true, decide_false, t1, t2, t29, t30] at hT
  obtain ⟨t1, t2, t6, t7, t35⟩ := hT
  refine GO_call_eq (by (simp (maxSteps := 4000000) (disch := omega) only [Zq, evO, vbox, wr, Zeq, if_true, if_false, Nat.reduceEqDiff, Nat.reduceAdd, Nat.reduceLeDiff, Nat.reduceSub, and_self, and_true, true_and, reduceIte, reduceCtorEq, eq_self, implies_true, forall_const, false_implies, imp_self, decide_true, decide_false, t1, t2, t6, t7, t35]) <;> rfl) ((toPlant_is H6 [v0_0, .int .i64 (a0).2.1, v0_2] a0 ((rPlant).rdk h0 k0_6) ht0).mono ?_)
  rintro _ H7 ⟨k7, csy5, Fy5, rfl, oy5_7, fy5⟩
  have n7 := k7.nxt
  have gb0_7 := (k7.get H.nxt (by omega)).trans gb0_6
  have gx4_7 := (k7.get H5.nxt (by omega)).trans gx4_6
  have k0_7 := k0_6.trans k7
  have or30_7 := (rLocking).ownKeep or30_6 k7
  have or31_7 := ((rSlc rInt)).ownKeep or31_6 k7
  obtain ⟨vy5_0, vy5_2, rfl, _⟩ := plant_rd (x0 := (a0).1) (x1 := (a0).2.1) (x2 := (a0).2.2) ((rPlant).ownrd oy5_7)
  simp only [plant_val]
  simp (maxSteps := 4000000) (disch := omega) only [Zq, evO, vbox, wr, Zeq, if_true, if_false, Nat.reduceEqDiff, Nat.reduceAdd, Nat.reduceLeDiff, Nat.reduceSub, and_self, and_true, true_and, reduceIte, reduceCtorEq, eq_self, implies_true, forall_const, false_implies, imp_self, decide_true, decide_false, vbinB_ne, gb0_7, gx4_7, t1, t2, t6, t7, t35]
  generalize hG8 : ((H7.push [.slice none 0 0, .int .i64 0, .slice none 0 0]).set H7.nxt [vy5_0, .int .i64 (a0).2.1, vy5_2]) = H8
  have k8 : Keep H7 H8 := by rw [← hG8]; repeat' (first | exact Keep.refl _ | assumption | refine Keep.push' ?_ | refine Keep.set' ?_ ?_ | refine Keep.moved' ?_ ?_ | omega)
  have gx6_8 : H8.get H7.nxt = some (.own [vy5_0, .int .i64 (a0).2.1, vy5_2]) := by rw [← hG8]; simp (maxSteps := 4000000) (disch := omega) only [Zq, evO, vbox, wr, Zeq, if_true, if_false, Nat.reduceEqDiff, Nat.reduceAdd, Nat.reduceLeDiff, Nat.reduceSub, and_self, and_true, true_and, reduceIte, reduceCtorEq, eq_self, implies_true, forall_const, false_implies, imp_self, decide_true, decide_false]
  have nn8 : H7.nxt + 1 = H8.nxt := by rw [← hG8]; simp only [Zbh, Zbg]
  have n8 := k8.nxt
  have gb0_8 := (k8.get H.nxt (by omega)).trans gb0_7
  have gx4_8 := (k8.get H5.nxt (by omega)).trans gx4_7
  have k0_8 := k0_7.trans k8
  have or30_8 := (rLocking).ownKeep or30_7 k8
  have or31_8 := ((rSlc rInt)).ownKeep or31_7 k8
  have oy5_8 := (rPlant).ownKeep oy5_7 k8
  try simp (maxSteps := 4000000) (disch := omega) only [Zq, evO, vbox, wr, Zeq, if_true, if_false, Nat.reduceEqDiff, Nat.reduceAdd, Nat.reduceLeDiff, Nat.reduceSub, and_self, and_true, true_and, reduceIte, reduceCtorEq, eq_self, implies_true, forall_const, false_implies, imp_self, decide_true, decide_false, vbinB_ne, gb0_8, gx4_8, gx6_8, t1, t2, t6, t7, t35]
  refine GO_call_eq (by (simp (maxSteps := 4000000) (disch := omega) only [Zq, evO, vbox, wr, Zeq, if_true, if_false, Nat.reduceEqDiff, Nat.reduceAdd, Nat.reduceLeDiff, Nat.reduceSub, and_self, and_true, true_and, reduceIte, reduceCtorEq, eq_self, implies_true, forall_const, false_implies, imp_self, decide_true, decide_false, t1, t2, t6, t7, t35]) <;> rfl) ((toLockOpS_is H8 [v1] a1 (((rSlc rLockOp)).rdk h1 k0_8) ht1).mono ?_)
  rintro _ H9 ⟨k9, csy7, Fy7, rfl, oy7_9, fy7⟩
  have n9 := k9.nxt
  have gb0_9 := (k9.get H.nxt (by omega)).trans gb0_8
  have gx4_9 := (k9.get H5.nxt (by omega)).trans gx4_8
  have gx6_9 := (k9.get H7.nxt (by omega)).trans gx6_8
  have k0_9 := k0_8.trans k9
  have or30_9 := (rLocking).ownKeep or30_8 k9
  have or31_9 := ((rSlc rInt)).ownKeep or31_8 k9
  have oy5_9 := (rPlant).ownKeep oy5_8 k9
  obtain ⟨vy7, rfl⟩ := slc_one (((rSlc rLockOp)).ownrd oy7_9)
  simp only [slc_val]
  simp (maxSteps := 4000000) (disch := omega) only [Zq, evO, vbox, wr, Zeq, if_true, if_false, Nat.reduceEqDiff, Nat.reduceAdd, Nat.reduceLeDiff, Nat.reduceSub, and_self, and_true, true_and, reduceIte, reduceCtorEq, eq_self, implies_true, forall_const, false_implies, imp_self, decide_true, decide_false, vbinB_ne, gb0_9, gx4_9, gx6_9, t1, t2, t6, t7, t35]
  first | refine G_fix [1, 2, 6, 7, 8, 9, 40, 41] ?_ | refine GO_fix [1, 2, 6, 7, 8, 9, 40, 41] ?_ | refine cK_fix [1, 2, 6, 7, 8, 9, 40, 41] ?_
  intro T hT
  simp only [fix_nil, fix_cons, Zq, evO, vbox, wr, Zeq, if_true, if_false, Nat.reduceEqDiff, Nat.reduceAdd, Nat.reduceLeDiff, Nat.reduceSub, and_self, and_true, true_and, reduceIte, reduceCtorEq, eq_self, implies_true, forall_const, false_implies, imp_self, decide_true, decide_false, t1, t2, t6, t7, t35] at hT
  obtain ⟨t1, t2, t6, t7, t8, t9, t40, t41⟩ := hT
  refine GO_call_eq (by (simp (maxSteps := 4000000) (disch := omega) only [Zq, evO, vbox, wr, Zeq, if_true, if_false, Nat.reduceEqDiff, Nat.reduceAdd, Nat.reduceLeDiff, Nat.reduceSub, and_self, and_true, true_and, reduceIte, reduceCtorEq, eq_self, implies_true, forall_const, false_implies, imp_self, decide_true, decide_false, t1, t2, t6, t7, t8, t9, t40, t41]) <;> rfl) ((pk_law ((rPlant).ownrd oy5_9) (((rSlc rLockOp)).ownrd oy7_9) ht0 ht1 r_impl_PlayLock).mono ?_)
  rintro _ H10 ⟨k10, csr80, Fr80, csr81, Fr81, rfl, or80_10, fr80, or81_10, fr81, djr801⟩
  have n10 := k10.nxt
  have gb0_10 := (k10.get H.nxt (by omega)).trans gb0_9
  have gx4_10 := (k10.get H5.nxt (by omega)).trans gx4_9
  have gx6_10 := (k10.get H7.nxt (by omega)).trans gx6_9
  have k0_10 := k0_9.trans k10
  have or30_10 := (rLocking).ownKeep or30_9 k10
  have or31_10 := ((rSlc rInt)).ownKeep or31_9 k10
  have oy5_10 := (rPlant).ownKeep oy5_9 k10
  have oy7_10 := ((rSlc rLockOp)).ownKeep oy7_9 k10
  obtain ⟨vr80_0, vr80_1, vr80_2, rfl, _⟩ := locking_rd (x0 := ((pkR a0 a1).1).1) (x1 := ((pkR a0 a1).1).2.1) (x2 := ((pkR a0 a1).1).2.2) ((rLocking).ownrd or80_10)
  obtain ⟨vr81, rfl⟩ := slc_one (((rSlc rInt)).ownrd or81_10)
  simp only [locking_val, slc_val]
  simp (maxSteps := 4000000) (disch := omega) only [Zq, evO, vbox, wr, Zeq, if_true, if_false, Nat.reduceEqDiff, Nat.reduceAdd, Nat.reduceLeDiff, Nat.reduceSub, and_self, and_true, true_and, reduceIte, reduceCtorEq, eq_self, implies_true, forall_const, false_implies, imp_self, decide_true, decide_false, vbinB_ne, gb0_10, gx4_10, gx6_10, t1, t2, t6, t7, t8, t9, t40, t41]
  generalize hG11 : ((H10.push [.slice none 0 0, .slice none 0 0, .slice none 0 0]).set H10.nxt [vr80_0, vr80_1, vr80_2]) = H11
  have k11 : Keep H10 H11 := by rw [← hG11]; repeat' (first | exact Keep.refl _ | assumption | refine Keep.push' ?_ | refine Keep.set' ?_ ?_ | refine Keep.moved' ?_ ?_ | omega)
  have gx9_11 : H11.get H10.nxt = some (.own [vr80_0, vr80_1, vr80_2]) := by rw [← hG11]; simp (maxSteps := 4000000) (disch := omega) only [Zq, evO, vbox, wr, Zeq, if_true, if_false, Nat.reduceEqDiff, Nat.reduceAdd, Nat.reduceLeDiff, Nat.reduceSub, and_self, and_true, true_and, reduceIte, reduceCtorEq, eq_self, implies_true, forall_const, false_implies, imp_self, decide_true, decide_false]
  have nn11 : H10.nxt + 1 = H11.nxt := by rw [← hG11]; simp only [Zbh, Zbg]
  have n11 := k11.nxt
  have gb0_11 := (k11.get H.nxt (by omega)).trans gb0_10
  have gx4_11 := (k11.get H5.nxt (by omega)).trans gx4_10
  have gx6_11 := (k11.get H7.nxt (by omega)).trans gx6_10
  have k0_11 := k0_10.trans k11
  have or30_11 := (rLocking).ownKeep or30_10 k11
  have or31_11 := ((rSlc rInt)).ownKeep or31_10 k11
  have oy5_11 := (rPlant).ownKeep oy5_10 k11
  have oy7_11 := ((rSlc rLockOp)).ownKeep oy7_10 k11
  have or80_11 := (rLocking).ownKeep or80_10 k11
  have or81_11 := ((rSlc rInt)).ownKeep or81_10 k11
  try simp (maxSteps := 4000000) (disch := omega) only [Zq, evO, vbox, wr, Zeq, if_true, if_false, Nat.reduceEqDiff, Nat.reduceAdd, Nat.reduceLeDiff, Nat.reduceSub, and_self, and_true, true_and, reduceIte, reduceCtorEq, eq_self, implies_true, forall_const, false_implies, imp_self, decide_true, decide_false, vbinB_ne, gb0_11, gx4_11, gx6_11, gx9_11, t1, t2, t6, t7, t8, t9, t40, t41]
  first | refine G_fix [1, 2, 6, 7, 8, 9, 10, 11, 45, 46] ?_ | refine GO_fix [1, 2, 6, 7, 8, 9, 10, 11, 45, 46] ?_ | refine cK_fix [1, 2, 6, 7, 8, 9, 10, 11, 45, 46] ?_
  intro T hT
  simp only [fix_nil, fix_cons, Zq, evO, vbox, wr, Zeq, if_true, if_false, Nat.reduceEqDiff, Nat.reduceAdd, Nat.reduceLeDiff, Nat.reduceSub, and_self, and_true, true_and, reduceIte, reduceCtorEq, eq_self, implies_true, forall_const, false_implies, imp_self, decide_true, decide_false, t1, t2, t6, t7, t8, t9, t40, t41] at hT
  obtain ⟨t1, t2, t6, t7, t8, t9, t10, t11, t45, t46⟩ := hT
  refine GO_call_eq (by (simp (maxSteps := 4000000) (disch := omega) only [Zq, evO, vbox, wr, Zeq, if_true, if_false, Nat.reduceEqDiff, Nat.reduceAdd, Nat.reduceLeDiff, Nat.reduceSub, and_self, and_true, true_and, reduceIte, reduceCtorEq, eq_self, implies_true, forall_const, false_implies, imp_self, decide_true, decide_false, t1, t2, t6, t7, t8, t9, t10, t11, t45, t46]) <;> rfl) ((eqLocking_is H11 [vr80_0, vr80_1, vr80_2] [vr30_0, vr30_1, vr30_2] ((pkR a0 a1).1) ((rLocking).ownrd or80_11) ((rLocking).ownrd or30_11) (by omega)).mono ?_)
  rintro _ H12 ⟨k12, rfl⟩
  have n12 := k12.nxt
  have gb0_12 := (k12.get H.nxt (by omega)).trans gb0_11
  have gx4_12 := (k12.get H5.nxt (by omega)).trans gx4_11
  have gx6_12 := (k12.get H7.nxt (by omega)).trans gx6_11
  have gx9_12 := (k12.get H10.nxt (by omega)).trans gx9_11
  have k0_12 := k0_11.trans k12
  have or30_12 := (rLocking).ownKeep or30_11 k12
  have or31_12 := ((rSlc rInt)).ownKeep or31_11 k12
  have oy5_12 := (rPlant).ownKeep oy5_11 k12
  have oy7_12 := ((rSlc rLockOp)).ownKeep oy7_11 k12
  have or80_12 := (rLocking).ownKeep or80_11 k12
  have or81_12 := ((rSlc rInt)).ownKeep or81_11 k12
  simp (maxSteps := 4000000) (disch := omega) only [Zq, evO, vbox, wr, Zeq, if_true, if_false, Nat.reduceEqDiff, Nat.reduceAdd, Nat.reduceLeDiff, Nat.reduceSub, and_self, and_true, true_and, reduceIte, reduceCtorEq, eq_self, implies_true, forall_const, false_implies, imp_self, decide_true, decide_false, vbinB_ne, gb0_12, gx4_12, gx6_12, gx9_12, t1, t2, t6, t7, t8, t9, t10, t11, t45, t46]
  refine GO_call_eq (by (simp (maxSteps := 4000000) (disch := omega) only [Zq, evO, vbox, wr, Zeq, if_true, if_false, Nat.reduceEqDiff, Nat.reduceAdd, Nat.reduceLeDiff, Nat.reduceSub, and_self, and_true, true_and, reduceIte, reduceCtorEq, eq_self, implies_true, forall_const, false_implies, imp_self, decide_true, decide_false, t1, t2, t6, t7, t8, t9, t10, t11, t45, t46]) <;> rfl) ((eqIntS_is H12 [vr81] [vr31] ((pkR a0 a1).2) (((rSlc rInt)).ownrd or81_12) (((rSlc rInt)).ownrd or31_12) (by omega)).mono ?_)
  rintro _ H13 ⟨k13, rfl⟩
  have n13 := k13.nxt
  have gb0_13 := (k13.get H.nxt (by omega)).trans gb0_12
  have gx4_13 := (k13.get H5.nxt (by omega)).trans gx4_12
  have gx6_13 := (k13.get H7.nxt (by omega)).trans gx6_12
  have gx9_13 := (k13.get H10.nxt (by omega)).trans gx9_12
  have k0_13 := k0_12.trans k13
  have or30_13 := (rLocking).ownKeep or30_12 k13
  have or31_13 := ((rSlc rInt)).ownKeep or31_12 k13
  have oy5_13 := (rPlant).ownKeep oy5_12 k13
  have oy7_13 := ((rSlc rLockOp)).ownKeep oy7_12 k13
  have or80_13 := (rLocking).ownKeep or80_12 k13
  have or81_13 := ((rSlc rInt)).ownKeep or81_12 k13
  simp (maxSteps := 4000000) (disch := omega) only [Zq, evO, vbox, wr, Zeq, if_true, if_false, Nat.reduceEqDiff, Nat.reduceAdd, Nat.reduceLeDiff, Nat.reduceSub, and_self, and_true, true_and, reduceIte, reduceCtorEq, eq_self, implies_true, forall_const, false_implies, imp_self, decide_true, decide_false, vbinB_ne, gb0_13, gx4_13, gx6_13, gx9_13, t1, t2, t6, t7, t8, t9, t10, t11, t45, t46]
  first | refine G_fix [1, 2, 6, 7, 8, 9, 10, 11] ?_ | refine GO_fix [1, 2, 6, 7, 8, 9, 10, 11] ?_ | refine cK_fix [1, 2, 6, 7, 8, 9, 10, 11] ?_
  intro T hT
  simp only [fix_nil, fix_cons, Zq, evO, vbox, wr, Zeq, if_true, if_false, Nat.reduceEqDiff, Nat.reduceAdd, Nat.reduceLeDiff, Nat.reduceSub, and_self, and_true, true_and, reduceIte, reduceCtorEq, eq_self, implies_true, forall_const, false_implies, imp_self, decide_true, decide_false, t1, t2, t6, t7, t8, t9, t10, t11, t45, t46] at hT
  obtain ⟨t1, t2, t6, t7, t8, t9, t10, t11⟩ := hT
  simp (maxSteps := 4000000) (disch := omega) only [ZD, Zio, Zip, pre_, beq_self_eq_true, Nat.reduceBEq, Zq, evO, vbox, wr, Zeq, if_true, if_false, Nat.reduceEqDiff, Nat.reduceAdd, Nat.reduceLeDiff, Nat.reduceSub, and_self, and_true, true_and, reduceIte, reduceCtorEq, eq_self, implies_true, forall_const, false_implies, imp_self, decide_true, decide_false, G_dreg, vbinB_ne, gb0_13, gx4_13, gx6_13, gx9_13, t1, t2, t6, t7, t8, t9, t10, t11]
  refine GD_call_eq (by (simp (maxSteps := 4000000) (disch := omega) only [Zq, evO, vbox, wr, Zeq, if_true, if_false, Nat.reduceEqDiff, Nat.reduceAdd, Nat.reduceLeDiff, Nat.reduceSub, and_self, and_true, true_and, reduceIte, reduceCtorEq, eq_self, implies_true, forall_const, false_implies, imp_self, decide_true, decide_false, t1, t2, t6, t7, t8, t9, t10, t11]) <;> rfl) ((toPlant_is H13 [v0_0, .int .i64 (a0).2.1, v0_2] a0 ((rPlant).rdk h0 k0_13) ht0).mono ?_)
  rintro _ H14 ⟨k14, csy10, Fy10, rfl, oy10_14, fy10⟩
  have n14 := k14.nxt
  have gb0_14 := (k14.get H.nxt (by omega)).trans gb0_13
  have gx4_14 := (k14.get H5.nxt (by omega)).trans gx4_13
  have gx6_14 := (k14.get H7.nxt (by omega)).trans gx6_13
  have gx9_14 := (k14.get H10.nxt (by omega)).trans gx9_13
  have k0_14 := k0_13.trans k14
  have or30_14 := (rLocking).ownKeep or30_13 k14
  have or31_14 := ((rSlc rInt)).ownKeep or31_13 k14
  have oy5_14 := (rPlant).ownKeep oy5_13 k14
  have oy7_14 := ((rSlc rLockOp)).ownKeep oy7_13 k14
  have or80_14 := (rLocking).ownKeep or80_13 k14
  have or81_14 := ((rSlc rInt)).ownKeep or81_13 k14
  obtain ⟨vy10_0, vy10_2, rfl, _⟩ := plant_rd (x0 := (a0).1) (x1 := (a0).2.1) (x2 := (a0).2.2) ((rPlant).ownrd oy10_14)
  simp only [plant_val]
  simp (maxSteps := 4000000) (disch := omega) only [ZD, Zio, Zip, pre_, beq_self_eq_true, Nat.reduceBEq, Zq, evO, vbox, wr, Zeq, if_true, if_false, Nat.reduceEqDiff, Nat.reduceAdd, Nat.reduceLeDiff, Nat.reduceSub, and_self, and_true, true_and, reduceIte, reduceCtorEq, eq_self, implies_true, forall_const, false_implies, imp_self, decide_true, decide_false, vbinB_ne, gb0_14, gb0_13, gx4_14, gx4_13, gx6_14, gx6_13, gx9_14, gx9_13, t1, t2, t6, t7, t8, t9, t10, t11]
  refine GD_call_eq (by (simp (maxSteps := 4000000) (disch := omega) only [Zq, evO, vbox, wr, Zeq, if_true, if_false, Nat.reduceEqDiff, Nat.reduceAdd, Nat.reduceLeDiff, Nat.reduceSub, and_self, and_true, true_and, reduceIte, reduceCtorEq, eq_self, implies_true, forall_const, false_implies, imp_self, decide_true, decide_false, t1, t2, t6, t7, t8, t9, t10, t11]) <;> rfl) ((eqPlant_is H14 [vy5_0, .int .i64 (a0).2.1, vy5_2] [vy10_0, .int .i64 (a0).2.1, vy10_2] (a0) ((rPlant).ownrd oy5_14) ((rPlant).ownrd oy10_14) (by omega)).mono ?_)
  rintro _ H15 ⟨k15, rfl⟩
  have n15 := k15.nxt
  have gb0_15 := (k15.get H.nxt (by omega)).trans gb0_14
  have gx4_15 := (k15.get H5.nxt (by omega)).trans gx4_14
  have gx6_15 := (k15.get H7.nxt (by omega)).trans gx6_14
  have gx9_15 := (k15.get H10.nxt (by omega)).trans gx9_14
  have k0_15 := k0_14.trans k15
  have or30_15 := (rLocking).ownKeep or30_14 k15
  have or31_15 := ((rSlc rInt)).ownKeep or31_14 k15
  have oy5_15 := (rPlant).ownKeep oy5_14 k15
  have oy7_15 := ((rSlc rLockOp)).ownKeep oy7_14 k15
  have or80_15 := (rLocking).ownKeep or80_14 k15
  have or81_15 := ((rSlc rInt)).ownKeep or81_14 k15
  have oy10_15 := (rPlant).ownKeep oy10_14 k15
  simp (maxSteps := 4000000) (disch := omega) only [ZD, Zio, Zip, pre_, beq_self_eq_true, Nat.reduceBEq, Zq, evO, vbox, wr, Zeq, if_true, if_false, Nat.reduceEqDiff, Nat.reduceAdd, Nat.reduceLeDiff, Nat.reduceSub, and_self, and_true, true_and, reduceIte, reduceCtorEq, eq_self, implies_true, forall_const, false_implies, imp_self, decide_true, decide_false, vbinB_ne, gb0_15, gb0_13, gb0_14, gx4_15, gx4_13, gx4_14, gx6_15, gx6_13, gx6_14, gx9_15, gx9_13, gx9_14, t1, t2, t6, t7, t8, t9, t10, t11]
  first | with_reducible refine And.intro (by repeat' (first | exact trivial | apply And.intro | omega | exact k14.get _ (by omega) | exact k15.get _ (by omega) | (simp only [Zbi, push_get']; split <;> first | omega | rfl))) ?_ | skip
  try simp (maxSteps := 4000000) (disch := omega) only [Zq, evO, vbox, wr, Zeq, if_true, if_false, Nat.reduceEqDiff, Nat.reduceAdd, Nat.reduceLeDiff, Nat.reduceSub, and_self, and_true, true_and, reduceIte, reduceCtorEq, eq_self, implies_true, forall_const, false_implies, imp_self, decide_true, decide_false, vbinB_ne, gb0_15, gx4_15, gx6_15, gx9_15, t1, t2, t6, t7, t8, t9, t10, t11]
  first | refine G_fix [1, 2, 6, 7, 8, 9, 10, 11, 60, 61] ?_ | refine GO_fix [1, 2, 6, 7, 8, 9, 10, 11, 60, 61] ?_ | refine cK_fix [1, 2, 6, 7, 8, 9, 10, 11, 60, 61] ?_
  intro T hT
  simp only [fix_nil, fix_cons, Zq, evO, vbox, wr, Zeq, if_true, if_false, Nat.reduceEqDiff, Nat.reduceAdd, Nat.reduceLeDiff, Nat.reduceSub, and_self, and_true, true_and, reduceIte, reduceCtorEq, eq_self, implies_true, forall_const, false_implies, imp_self, decide_true, decide_false, t1, t2, t6, t7, t8, t9, t10, t11] at hT
  obtain ⟨t1, t2, t6, t7, t8, t9, t10, t11, t60, t61⟩ := hT
  refine GO_call_eq (by (simp (maxSteps := 4000000) (disch := omega) only [Zq, evO, vbox, wr, Zeq, if_true, if_false, Nat.reduceEqDiff, Nat.reduceAdd, Nat.reduceLeDiff, Nat.reduceSub, and_self, and_true, true_and, reduceIte, reduceCtorEq, eq_self, implies_true, forall_const, false_implies, imp_self, decide_true, decide_false, t1, t2, t6, t7, t8, t9, t10, t11, t60, t61]) <;> rfl) ((toLockOpS_is H15 [v1] a1 (((rSlc rLockOp)).rdk h1 k0_15) ht1).mono ?_)
  rintro _ H16 ⟨k16, csy11, Fy11, rfl, oy11_16, fy11⟩
  have n16 := k16.nxt
  have gb0_16 := (k16.get H.nxt (by omega)).trans gb0_15
  have gx4_16 := (k16.get H5.nxt (by omega)).trans gx4_15
  have gx6_16 := (k16.get H7.nxt (by omega)).trans gx6_15
  have gx9_16 := (k16.get H10.nxt (by omega)).trans gx9_15
  have k0_16 := k0_15.trans k16
  have or30_16 := (rLocking).ownKeep or30_15 k16
  have or31_16 := ((rSlc rInt)).ownKeep or31_15 k16
  have oy5_16 := (rPlant).ownKeep oy5_15 k16
  have oy7_16 := ((rSlc rLockOp)).ownKeep oy7_15 k16
  have or80_16 := (rLocking).ownKeep or80_15 k16
  have or81_16 := ((rSlc rInt)).ownKeep or81_15 k16
  obtain ⟨vy11, rfl⟩ := slc_one (((rSlc rLockOp)).ownrd oy11_16)
  simp only [slc_val]
  simp (maxSteps := 4000000) (disch := omega) only [Zq, evO, vbox, wr, Zeq, if_true, if_false, Nat.reduceEqDiff, Nat.reduceAdd, Nat.reduceLeDiff, Nat.reduceSub, and_self, and_true, true_and, reduceIte, reduceCtorEq, eq_self, implies_true, forall_const, false_implies, imp_self, decide_true, decide_false, vbinB_ne, gb0_16, gx4_16, gx6_16, gx9_16, t1, t2, t6, t7, t8, t9, t10, t11, t60, t61]
  refine GO_call_eq (by (simp (maxSteps := 4000000) (disch := omega) only [Zq, evO, vbox, wr, Zeq, if_true, if_false, Nat.reduceEqDiff, Nat.reduceAdd, Nat.reduceLeDiff, Nat.reduceSub, and_self, and_true, true_and, reduceIte, reduceCtorEq, eq_self, implies_true, forall_const, false_implies, imp_self, decide_true, decide_false, t1, t2, t6, t7, t8, t9, t10, t11, t60, t61]) <;> rfl) ((eqLockOpS_is H16 [vy7] [vy11] (a1) (((rSlc rLockOp)).ownrd oy7_16) (((rSlc rLockOp)).ownrd oy11_16) (by omega)).mono ?_)
  rintro _ H17 ⟨k17, rfl⟩
  have n17 := k17.nxt
  have gb0_17 := (k17.get H.nxt (by omega)).trans gb0_16
  have gx4_17 := (k17.get H5.nxt (by omega)).trans gx4_16
  have gx6_17 := (k17.get H7.nxt (by omega)).trans gx6_16
  have gx9_17 := (k17.get H10.nxt (by omega)).trans gx9_16
  have k0_17 := k0_16.trans k17
  have or30_17 := (rLocking).ownKeep or30_16 k17
  have or31_17 := ((rSlc rInt)).ownKeep or31_16 k17
  have oy5_17 := (rPlant).ownKeep oy5_16 k17
  have oy7_17 := ((rSlc rLockOp)).ownKeep oy7_16 k17
  have or80_17 := (rLocking).ownKeep or80_16 k17
  have or81_17 := ((rSlc rInt)).ownKeep or81_16 k17
  have oy11_17 := ((rSlc rLockOp)).ownKeep oy11_16 k17
  simp (maxSteps := 4000000) (disch := omega) only [Zq, evO, vbox, wr, Zeq, if_true, if_false, Nat.reduceEqDiff, Nat.reduceAdd, Nat.reduceLeDiff, Nat.reduceSub, and_self, and_true, true_and, reduceIte, reduceCtorEq, eq_self, implies_true, forall_const, false_implies, imp_self, decide_true, decide_false, vbinB_ne, gb0_17, gx4_17, gx6_17, gx9_17, t1, t2, t6, t7, t8, t9, t10, t11, t60, t61]
  have hm18 := mar_Plant (a0) (1)
  refine GO_call_eq (by (simp (maxSteps := 4000000) (disch := omega) only [Zq, evO, vbox, wr, Zeq, if_true, if_false, Nat.reduceEqDiff, Nat.reduceAdd, Nat.reduceLeDiff, Nat.reduceSub, and_self, and_true, true_and, reduceIte, reduceCtorEq, eq_self, implies_true, forall_const, false_implies, imp_self, decide_true, decide_false, t1, t2, t6, t7, t8, t9, t10, t11, t60, t61]) <;> rfl) ((markPlant_is H17 [vy5_0, .int .i64 (a0).2.1, vy5_2] (a0) Fy5 (1) oy5_17 fy5.1 (by omega)).mono ?_)
  rintro _ H18 ⟨c18, oy5_18, rfl⟩
  have n18 := c18.nxt
  have gb0_18 := (c18.get H.nxt (by omega) (fun hm => by have := fy5.2 _ hm; omega)).trans gb0_17
  have gx4_18 := (c18.get H5.nxt (by omega) (fun hm => by have := fy5.2 _ hm; omega)).trans gx4_17
  have gx6_18 := (c18.get H7.nxt (by omega) (fun hm => by have := fy5.2 _ hm; omega)).trans gx6_17
  have gx9_18 := (c18.get H10.nxt (by omega) (fun hm => by have := fy5.2 _ hm; omega)).trans gx9_17
  have k0_18 := c18.keep k0_17 (fun i hi => by have := fy5.2 i hi; omega)
  have or30_18 := (rLocking).ownChg or30_17 c18 (fun i hi hm => by have := fr30.2 i hi; have := fy5.2 i hm; omega)
  have or31_18 := ((rSlc rInt)).ownChg or31_17 c18 (fun i hi hm => by have := fr31.2 i hi; have := fy5.2 i hm; omega)
  have oy7_18 := ((rSlc rLockOp)).ownChg oy7_17 c18 (fun i hi hm => by have := fy7.2 i hi; have := fy5.2 i hm; omega)
  have or80_18 := (rLocking).ownChg or80_17 c18 (fun i hi hm => by have := fr80.2 i hi; have := fy5.2 i hm; omega)
  have or81_18 := ((rSlc rInt)).ownChg or81_17 c18 (fun i hi hm => by have := fr81.2 i hi; have := fy5.2 i hm; omega)
  simp (maxSteps := 4000000) (disch := omega) only [Zq, evO, vbox, wr, Zeq, if_true, if_false, Nat.reduceEqDiff, Nat.reduceAdd, Nat.reduceLeDiff, Nat.reduceSub, and_self, and_true, true_and, reduceIte, reduceCtorEq, eq_self, implies_true, forall_const, false_implies, imp_self, decide_true, decide_false, vbinB_ne, gb0_18, gx4_18, gx9_18, t1, t2, t6, t7, t8, t9, t10, t11, t60, t61]
  first | refine G_fix [1, 2, 6, 7, 10, 11, 68, 69] ?_ | refine GO_fix [1, 2, 6, 7, 10, 11, 68, 69] ?_ | refine cK_fix [1, 2, 6, 7, 10, 11, 68, 69] ?_
  intro T hT
  simp only [fix_nil, fix_cons, Zq, evO, vbox, wr, Zeq, if_true, if_false, Nat.reduceEqDiff, Nat.reduceAdd, Nat.reduceLeDiff, Nat.reduceSub, and_self, and_true, true_and, reduceIte, reduceCtorEq, eq_self, implies_true, forall_const, false_implies, imp_self, decide_true, decide_false, t1, t2, t6, t7, t8, t9, t10, t11, t60, t61] at hT
  obtain ⟨t1, t2, t6, t7, t10, t11, t68, t69⟩ := hT
  have hm19 := mar_le marB_LockOp (a1) ((mPlant (a0) (1)).2)
  refine GO_call_eq (by (simp (maxSteps := 4000000) (disch := omega) only [Zq, evO, vbox, wr, Zeq, if_true, if_false, Nat.reduceEqDiff, Nat.reduceAdd, Nat.reduceLeDiff, Nat.reduceSub, and_self, and_true, true_and, reduceIte, reduceCtorEq, eq_self, implies_true, forall_const, false_implies, imp_self, decide_true, decide_false, t1, t2, t6, t7, t10, t11, t68, t69]) <;> rfl) ((markLockOpS_is H18 [vy7] (a1) Fy7 ((mPlant (a0) (1)).2) oy7_18 fy7.1 (by omega)).mono ?_)
  rintro _ H19 ⟨c19, oy7_19, rfl⟩
  have n19 := c19.nxt
  have gb0_19 := (c19.get H.nxt (by omega) (fun hm => by have := fy7.2 _ hm; omega)).trans gb0_18
  have gx4_19 := (c19.get H5.nxt (by omega) (fun hm => by have := fy7.2 _ hm; omega)).trans gx4_18
  have gx9_19 := (c19.get H10.nxt (by omega) (fun hm => by have := fy7.2 _ hm; omega)).trans gx9_18
  have k0_19 := c19.keep k0_18 (fun i hi => by have := fy7.2 i hi; omega)
  have or30_19 := (rLocking).ownChg or30_18 c19 (fun i hi hm => by have := fr30.2 i hi; have := fy7.2 i hm; omega)
  have or31_19 := ((rSlc rInt)).ownChg or31_18 c19 (fun i hi hm => by have := fr31.2 i hi; have := fy7.2 i hm; omega)
  have or80_19 := (rLocking).ownChg or80_18 c19 (fun i hi hm => by have := fr80.2 i hi; have := fy7.2 i hm; omega)
  have or81_19 := ((rSlc rInt)).ownChg or81_18 c19 (fun i hi hm => by have := fr81.2 i hi; have := fy7.2 i hm; omega)
  simp (maxSteps := 4000000) (disch := omega) only [Zq, evO, vbox, wr, Zeq, if_true, if_false, Nat.reduceEqDiff, Nat.reduceAdd, Nat.reduceLeDiff, Nat.reduceSub, and_self, and_true, true_and, reduceIte, reduceCtorEq, eq_self, implies_true, forall_const, false_implies, imp_self, decide_true, decide_false, vbinB_ne, gb0_19, gx4_19, gx9_19, t1, t2, t6, t7, t10, t11, t68, t69]
  refine GO_call_eq (by (simp (maxSteps := 4000000) (disch := omega) only [Zq, evO, vbox, wr, Zeq, if_true, if_false, Nat.reduceEqDiff, Nat.reduceAdd, Nat.reduceLeDiff, Nat.reduceSub, and_self, and_true, true_and, reduceIte, reduceCtorEq, eq_self, implies_true, forall_const, false_implies, imp_self, decide_true, decide_false, t1, t2, t6, t7, t10, t11, t68, t69]) <;> rfl) ((eqLocking_is H19 [vr80_0, vr80_1, vr80_2] [vr30_0, vr30_1, vr30_2] ((pkR a0 a1).1) ((rLocking).ownrd or80_19) ((rLocking).ownrd or30_19) (by omega)).mono ?_)
  rintro _ H20 ⟨k20, rfl⟩
  have n20 := k20.nxt
  have gb0_20 := (k20.get H.nxt (by omega)).trans gb0_19
  have gx4_20 := (k20.get H5.nxt (by omega)).trans gx4_19
  have gx9_20 := (k20.get H10.nxt (by omega)).trans gx9_19
  have k0_20 := k0_19.trans k20
  have or30_20 := (rLocking).ownKeep or30_19 k20
  have or31_20 := ((rSlc rInt)).ownKeep or31_19 k20
  have or80_20 := (rLocking).ownKeep or80_19 k20
  have or81_20 := ((rSlc rInt)).ownKeep or81_19 k20
  simp (maxSteps := 4000000) (disch := omega) only [Zq, evO, vbox, wr, Zeq, if_true, if_false, Nat.reduceEqDiff, Nat.reduceAdd, Nat.reduceLeDiff, Nat.reduceSub, and_self, and_true, true_and, reduceIte, reduceCtorEq, eq_self, implies_true, forall_const, false_implies, imp_self, decide_true, decide_false, vbinB_ne, gb0_20, gx4_20, gx9_20, t1, t2, t6, t7, t10, t11, t68, t69]
  first | refine G_fix [1, 2, 6, 7, 10, 11, 79, 80, 81] ?_ | refine GO_fix [1, 2, 6, 7, 10, 11, 79, 80, 81] ?_ | refine cK_fix [1, 2, 6, 7, 10, 11, 79, 80, 81] ?_
  intro T hT
  simp only [fix_nil, fix_cons, Zq, evO, vbox, wr, Zeq, if_true, if_false, Nat.reduceEqDiff, Nat.reduceAdd, Nat.reduceLeDiff, Nat.reduceSub, and_self, and_true, true_and, reduceIte, reduceCtorEq, eq_self, implies_true, forall_const, false_implies, imp_self, decide_true, decide_false, t1, t2, t6, t7, t10, t11, t68, t69] at hT
  obtain ⟨t1, t2, t6, t7, t10, t11, t79, t80, t81⟩ := hT
  refine GO_call_eq (by (simp (maxSteps := 4000000) (disch := omega) only [Zq, evO, vbox, wr, Zeq, if_true, if_false, Nat.reduceEqDiff, Nat.reduceAdd, Nat.reduceLeDiff, Nat.reduceSub, and_self, and_true, true_and, reduceIte, reduceCtorEq, eq_self, implies_true, forall_const, false_implies, imp_self, decide_true, decide_false, t1, t2, t6, t7, t10, t11, t79, t80, t81]) <;> rfl) ((eqIntS_is H20 [vr81] [vr31] ((pkR a0 a1).2) (((rSlc rInt)).ownrd or81_20) (((rSlc rInt)).ownrd or31_20) (by omega)).mono ?_)
  rintro _ H21 ⟨k21, rfl⟩
  have n21 := k21.nxt
  have gb0_21 := (k21.get H.nxt (by omega)).trans gb0_20
  have gx4_21 := (k21.get H5.nxt (by omega)).trans gx4_20
  have gx9_21 := (k21.get H10.nxt (by omega)).trans gx9_20
  have k0_21 := k0_20.trans k21
  have or30_21 := (rLocking).ownKeep or30_20 k21
  have or31_21 := ((rSlc rInt)).ownKeep or31_20 k21
  have or80_21 := (rLocking).ownKeep or80_20 k21
  have or81_21 := ((rSlc rInt)).ownKeep or81_20 k21
  simp (maxSteps := 4000000) (disch := omega) only [Zq, evO, vbox, wr, Zeq, if_true, if_false, Nat.reduceEqDiff, Nat.reduceAdd, Nat.reduceLeDiff, Nat.reduceSub, and_self, and_true, true_and, reduceIte, reduceCtorEq, eq_self, implies_true, forall_const, false_implies, imp_self, decide_true, decide_false, vbinB_ne, gb0_21, gx4_21, gx9_21, t1, t2, t6, t7, t10, t11, t79, t80, t81]
  have hm22 := mar_Locking ((pkR a0 a1).1) (1)
  refine GO_call_eq (by (simp (maxSteps := 4000000) (disch := omega) only [Zq, evO, vbox, wr, Zeq, if_true, if_false, Nat.reduceEqDiff, Nat.reduceAdd, Nat.reduceLeDiff, Nat.reduceSub, and_self, and_true, true_and, reduceIte, reduceCtorEq, eq_self, implies_true, forall_const, false_implies, imp_self, decide_true, decide_false, t1, t2, t6, t7, t10, t11, t79, t80, t81]) <;> rfl) ((markLocking_is H21 [vr80_0, vr80_1, vr80_2] ((pkR a0 a1).1) Fr80 (1) or80_21 fr80.1 (by omega)).mono ?_)
  rintro _ H22 ⟨c22, or80_22, rfl⟩
  have n22 := c22.nxt
  have gb0_22 := (c22.get H.nxt (by omega) (fun hm => by have := fr80.2 _ hm; omega)).trans gb0_21
  have gx4_22 := (c22.get H5.nxt (by omega) (fun hm => by have := fr80.2 _ hm; omega)).trans gx4_21
  have gx9_22 := (c22.get H10.nxt (by omega) (fun hm => by have := fr80.2 _ hm; omega)).trans gx9_21
  have k0_22 := c22.keep k0_21 (fun i hi => by have := fr80.2 i hi; omega)
  have or30_22 := (rLocking).ownChg or30_21 c22 (fun i hi hm => by have := fr30.2 i hi; have := fr80.2 i hm; omega)
  have or31_22 := ((rSlc rInt)).ownChg or31_21 c22 (fun i hi hm => by have := fr31.2 i hi; have := fr80.2 i hm; omega)
  have or81_22 := ((rSlc rInt)).ownChg or81_21 c22 (fun i hi hm => djr801 i hm hi)
  simp (maxSteps := 4000000) (disch := omega) only [Zq, evO, vbox, wr, Zeq, if_true, if_false, Nat.reduceEqDiff, Nat.reduceAdd, Nat.reduceLeDiff, Nat.reduceSub, and_self, and_true, true_and, reduceIte, reduceCtorEq, eq_self, implies_true, forall_const, false_implies, imp_self, decide_true, decide_false, vbinB_ne, gb0_22, gx4_22, gx9_22, t1, t2, t6, t7, t10, t11, t79, t80, t81]
  first | refine G_fix [1, 2, 6, 7, 10, 11, 88, 89] ?_ | refine GO_fix [1, 2, 6, 7, 10, 11, 88, 89] ?_ | refine cK_fix [1, 2, 6, 7, 10, 11, 88, 89] ?_
  intro T hT
  simp only [fix_nil, fix_cons, Zq, evO, vbox, wr, Zeq, if_true, if_false, Nat.reduceEqDiff, Nat.reduceAdd, Nat.reduceLeDiff, Nat.reduceSub, and_self, and_true, true_and, reduceIte, reduceCtorEq, eq_self, implies_true, forall_const, false_implies, imp_self, decide_true, decide_false, t1, t2, t6, t7, t10, t11, t79, t80, t81] at hT
  obtain ⟨t1, t2, t6, t7, t10, t11, t88, t89⟩ := hT
  have hm23 := mar_le MarB.int ((pkR a0 a1).2) ((mLocking ((pkR a0 a1).1) (1)).2)
  refine GO_call_eq (by (simp (maxSteps := 4000000) (disch := omega) only [Zq, evO, vbox, wr, Zeq, if_true, if_false, Nat.reduceEqDiff, Nat.reduceAdd, Nat.reduceLeDiff, Nat.reduceSub, and_self, and_true, true_and, reduceIte, reduceCtorEq, eq_self, implies_true, forall_const, false_implies, imp_self, decide_true, decide_false, t1, t2, t6, t7, t10, t11, t88, t89]) <;> rfl) ((markIntS_is H22 [vr81] ((pkR a0 a1).2) Fr81 ((mLocking ((pkR a0 a1).1) (1)).2) or81_22 fr81.1 (by omega)).mono ?_)
  rintro _ H23 ⟨c23, or81_23, rfl⟩
  have n23 := c23.nxt
  have gb0_23 := (c23.get H.nxt (by omega) (fun hm => by have := fr81.2 _ hm; omega)).trans gb0_22
  have gx4_23 := (c23.get H5.nxt (by omega) (fun hm => by have := fr81.2 _ hm; omega)).trans gx4_22
  have gx9_23 := (c23.get H10.nxt (by omega) (fun hm => by have := fr81.2 _ hm; omega)).trans gx9_22
  have k0_23 := c23.keep k0_22 (fun i hi => by have := fr81.2 i hi; omega)
  have or30_23 := (rLocking).ownChg or30_22 c23 (fun i hi hm => by have := fr30.2 i hi; have := fr81.2 i hm; omega)
  have or31_23 := ((rSlc rInt)).ownChg or31_22 c23 (fun i hi hm => by have := fr31.2 i hi; have := fr81.2 i hm; omega)
  have or80_23 := (rLocking).ownChg or80_22 c23 (fun i hi hm => djr801 i hi hm)
  simp (maxSteps := 4000000) (disch := omega) only [Zq, evO, vbox, wr, Zeq, if_true, if_false, Nat.reduceEqDiff, Nat.reduceAdd, Nat.reduceLeDiff, Nat.reduceSub, and_self, and_true, true_and, reduceIte, reduceCtorEq, eq_self, implies_true, forall_const, false_implies, imp_self, decide_true, decide_false, vbinB_ne, gb0_23, gx4_23, gx9_23, t1, t2, t6, t7, t10, t11, t88, t89]
  refine GO_call_eq (by (simp (maxSteps := 4000000) (disch := omega) only [Zq, evO, vbox, wr, Zeq, if_true, if_false, Nat.reduceEqDiff, Nat.reduceAdd, Nat.reduceLeDiff, Nat.reduceSub, and_self, and_true, true_and, reduceIte, reduceCtorEq, eq_self, implies_true, forall_const, false_implies, imp_self, decide_true, decide_false, t1, t2, t6, t7, t10, t11, t88, t89]) <;> rfl) ((heldLocking_is H23 [vr80_0, vr80_1, vr80_2] ((pkR a0 a1).1) (1) ((rLocking).ownrd or80_23) (by omega)).mono ?_)
  rintro _ H24 ⟨k24, rfl⟩
  have n24 := k24.nxt
  have gb0_24 := (k24.get H.nxt (by omega)).trans gb0_23
  have gx4_24 := (k24.get H5.nxt (by omega)).trans gx4_23
  have gx9_24 := (k24.get H10.nxt (by omega)).trans gx9_23
  have k0_24 := k0_23.trans k24
  have or30_24 := (rLocking).ownKeep or30_23 k24
  have or31_24 := ((rSlc rInt)).ownKeep or31_23 k24
  have or80_24 := (rLocking).ownKeep or80_23 k24
  have or81_24 := ((rSlc rInt)).ownKeep or81_23 k24
  simp (maxSteps := 4000000) (disch := omega) only [Zq, evO, vbox, wr, Zeq, if_true, if_false, Nat.reduceEqDiff, Nat.reduceAdd, Nat.reduceLeDiff, Nat.reduceSub, and_self, and_true, true_and, reduceIte, reduceCtorEq, eq_self, implies_true, forall_const, false_implies, imp_self, decide_true, decide_false, vbinB_ne, gb0_24, gx4_24, gx9_24, t1, t2, t6, t7, t10, t11, t88, t89]
  first | refine G_fix [1, 2, 6, 7, 10, 11, 13, 96, 97] ?_ | refine GO_fix [1, 2, 6, 7, 10, 11, 13, 96, 97] ?_ | refine cK_fix [1, 2, 6, 7, 10, 11, 13, 96, 97] ?_
  intro T hT
  simp only [fix_nil, fix_cons, Zq, evO, vbox, wr, Zeq, if_true, if_false, Nat.reduceEqDiff, Nat.reduceAdd, Nat.reduceLeDiff, Nat.reduceSub, and_self, and_true, true_and, reduceIte, reduceCtorEq, eq_self, implies_true, forall_const, false_implies, imp_self, decide_true, decide_false, t1, t2, t6, t7, t10, t11, t88, t89] at hT
  obtain ⟨t1, t2, t6, t7, t10, t11, t13, t96, t97⟩ := hT
  refine GO_call_eq (by (simp (maxSteps := 4000000) (disch := omega) only [Zq, evO, vbox, wr, Zeq, if_true, if_false, Nat.reduceEqDiff, Nat.reduceAdd, Nat.reduceLeDiff, Nat.reduceSub, and_self, and_true, true_and, reduceIte, reduceCtorEq, eq_self, implies_true, forall_const, false_implies, imp_self, decide_true, decide_false, t1, t2, t6, t7, t10, t11, t13, t96, t97]) <;> rfl) ((heldIntS_is H24 [vr81] ((pkR a0 a1).2) ((mLocking ((pkR a0 a1).1) (1)).2) (((rSlc rInt)).ownrd or81_24) (by omega)).mono ?_)
  rintro _ H25 ⟨k25, rfl⟩
  have n25 := k25.nxt
  have gb0_25 := (k25.get H.nxt (by omega)).trans gb0_24
  have gx4_25 := (k25.get H5.nxt (by omega)).trans gx4_24
  have gx9_25 := (k25.get H10.nxt (by omega)).trans gx9_24
  have k0_25 := k0_24.trans k25
  have or30_25 := (rLocking).ownKeep or30_24 k25
  have or31_25 := ((rSlc rInt)).ownKeep or31_24 k25
  have or80_25 := (rLocking).ownKeep or80_24 k25
  have or81_25 := ((rSlc rInt)).ownKeep or81_24 k25
  simp (maxSteps := 4000000) (disch := omega) only [Zq, evO, vbox, wr, Zeq, if_true, if_false, Nat.reduceEqDiff, Nat.reduceAdd, Nat.reduceLeDiff, Nat.reduceSub, and_self, and_true, true_and, reduceIte, reduceCtorEq, eq_self, implies_true, forall_const, false_implies, imp_self, decide_true, decide_false, vbinB_ne, gb0_25, gx4_25, gx9_25, t1, t2, t6, t7, t10, t11, t13, t96, t97]
  first | refine G_fix [1, 6, 7, 10, 11, 13, 105] ?_ | refine GO_fix [1, 6, 7, 10, 11, 13, 105] ?_ | refine cK_fix [1, 6, 7, 10, 11, 13, 105] ?_
  intro T hT
  simp only [fix_nil, fix_cons, Zq, evO, vbox, wr, Zeq, if_true, if_false, Nat.reduceEqDiff, Nat.reduceAdd, Nat.reduceLeDiff, Nat.reduceSub, and_self, and_true, true_and, reduceIte, reduceCtorEq, eq_self, implies_true, forall_const, false_implies, imp_self, decide_true, decide_false, t1, t2, t6, t7, t10, t11, t13, t96, t97] at hT
  obtain ⟨t1, t6, t7, t10, t11, t13, t105⟩ := hT
  refine GO_call_eq (by (simp (maxSteps := 4000000) (disch := omega) only [Zq, evO, vbox, wr, Zeq, if_true, if_false, Nat.reduceEqDiff, Nat.reduceAdd, Nat.reduceLeDiff, Nat.reduceSub, and_self, and_true, true_and, reduceIte, reduceCtorEq, eq_self, implies_true, forall_const, false_implies, imp_self, decide_true, decide_false, t1, t6, t7, t10, t11, t13, t105]) <;> rfl) ((toPlant_is H25 [v0_0, .int .i64 (a0).2.1, v0_2] a0 ((rPlant).rdk h0 k0_25) ht0).mono ?_)
  rintro _ H26 ⟨k26, csy12, Fy12, rfl, oy12_26, fy12⟩
  have n26 := k26.nxt
  have gb0_26 := (k26.get H.nxt (by omega)).trans gb0_25
  have gx4_26 := (k26.get H5.nxt (by omega)).trans gx4_25
  have gx9_26 := (k26.get H10.nxt (by omega)).trans gx9_25
  have k0_26 := k0_25.trans k26
  have or30_26 := (rLocking).ownKeep or30_25 k26
  have or31_26 := ((rSlc rInt)).ownKeep or31_25 k26
  have or80_26 := (rLocking).ownKeep or80_25 k26
  have or81_26 := ((rSlc rInt)).ownKeep or81_25 k26
  obtain ⟨vy12_0, vy12_2, rfl, _⟩ := plant_rd (x0 := (a0).1) (x1 := (a0).2.1) (x2 := (a0).2.2) ((rPlant).ownrd oy12_26)
  simp only [plant_val]
  simp (maxSteps := 4000000) (disch := omega) only [Zq, evO, vbox, wr, Zeq, if_true, if_false, Nat.reduceEqDiff, Nat.reduceAdd, Nat.reduceLeDiff, Nat.reduceSub, and_self, and_true, true_and, reduceIte, reduceCtorEq, eq_self, implies_true, forall_const, false_implies, imp_self, decide_true, decide_false, vbinB_ne, gb0_26, gx4_26, gx9_26, t1, t6, t7, t10, t11, t13, t105]
  refine GO_call_eq (by (simp (maxSteps := 4000000) (disch := omega) only [Zq, evO, vbox, wr, Zeq, if_true, if_false, Nat.reduceEqDiff, Nat.reduceAdd, Nat.reduceLeDiff, Nat.reduceSub, and_self, and_true, true_and, reduceIte, reduceCtorEq, eq_self, implies_true, forall_const, false_implies, imp_self, decide_true, decide_false, t1, t6, t7, t10, t11, t13, t105]) <;> rfl) ((toLockOpS_is H26 [v1] a1 (((rSlc rLockOp)).rdk h1 k0_26) ht1).mono ?_)
  rintro _ H27 ⟨k27, csy13, Fy13, rfl, oy13_27, fy13⟩
  have n27 := k27.nxt
  have gb0_27 := (k27.get H.nxt (by omega)).trans gb0_26
  have gx4_27 := (k27.get H5.nxt (by omega)).trans gx4_26
  have gx9_27 := (k27.get H10.nxt (by omega)).trans gx9_26
  have k0_27 := k0_26.trans k27
  have or30_27 := (rLocking).ownKeep or30_26 k27
  have or31_27 := ((rSlc rInt)).ownKeep or31_26 k27
  have or80_27 := (rLocking).ownKeep or80_26 k27
  have or81_27 := ((rSlc rInt)).ownKeep or81_26 k27
  have oy12_27 := (rPlant).ownKeep oy12_26 k27
  obtain ⟨vy13, rfl⟩ := slc_one (((rSlc rLockOp)).ownrd oy13_27)
  simp only [slc_val]
  simp (maxSteps := 4000000) (disch := omega) only [Zq, evO, vbox, wr, Zeq, if_true, if_false, Nat.reduceEqDiff, Nat.reduceAdd, Nat.reduceLeDiff, Nat.reduceSub, and_self, and_true, true_and, reduceIte, reduceCtorEq, eq_self, implies_true, forall_const, false_implies, imp_self, decide_true, decide_false, vbinB_ne, gb0_27, gx4_27, gx9_27, t1, t6, t7, t10, t11, t13, t105]
  refine GO_call_eq (by (simp (maxSteps := 4000000) (disch := omega) only [Zq, evO, vbox, wr, Zeq, if_true, if_false, Nat.reduceEqDiff, Nat.reduceAdd, Nat.reduceLeDiff, Nat.reduceSub, and_self, and_true, true_and, reduceIte, reduceCtorEq, eq_self, implies_true, forall_const, false_implies, imp_self, decide_true, decide_false, t1, t6, t7, t10, t11, t13, t105]) <;> rfl) ((pk_law ((rPlant).ownrd oy12_27) (((rSlc rLockOp)).ownrd oy13_27) ht0 ht1 r_impl_PlayLock).mono ?_)
  rintro _ H28 ⟨k28, csr140, Fr140, csr141, Fr141, rfl, or140_28, fr140, or141_28, fr141, djr1401⟩
  have n28 := k28.nxt
  have gb0_28 := (k28.get H.nxt (by omega)).trans gb0_27
  have gx4_28 := (k28.get H5.nxt (by omega)).trans gx4_27
  have gx9_28 := (k28.get H10.nxt (by omega)).trans gx9_27
  have k0_28 := k0_27.trans k28
  have or30_28 := (rLocking).ownKeep or30_27 k28
  have or31_28 := ((rSlc rInt)).ownKeep or31_27 k28
  have or80_28 := (rLocking).ownKeep or80_27 k28
  have or81_28 := ((rSlc rInt)).ownKeep or81_27 k28
  have oy12_28 := (rPlant).ownKeep oy12_27 k28
  have oy13_28 := ((rSlc rLockOp)).ownKeep oy13_27 k28
  obtain ⟨vr140_0, vr140_1, vr140_2, rfl, _⟩ := locking_rd (x0 := ((pkR a0 a1).1).1) (x1 := ((pkR a0 a1).1).2.1) (x2 := ((pkR a0 a1).1).2.2) ((rLocking).ownrd or140_28)
  obtain ⟨vr141, rfl⟩ := slc_one (((rSlc rInt)).ownrd or141_28)
  simp only [locking_val, slc_val]
  simp (maxSteps := 4000000) (disch := omega) only [Zq, evO, vbox, wr, Zeq, if_true, if_false, Nat.reduceEqDiff, Nat.reduceAdd, Nat.reduceLeDiff, Nat.reduceSub, and_self, and_true, true_and, reduceIte, reduceCtorEq, eq_self, implies_true, forall_const, false_implies, imp_self, decide_true, decide_false, vbinB_ne, gb0_28, gx4_28, gx9_28, t1, t6, t7, t10, t11, t13, t105]
  generalize hG29 : ((H28.push [.slice none 0 0, .slice none 0 0, .slice none 0 0]).set H28.nxt [vr140_0, vr140_1, vr140_2]) = H29
  have k29 : Keep H28 H29 := by rw [← hG29]; repeat' (first | exact Keep.refl _ | assumption | refine Keep.push' ?_ | refine Keep.set' ?_ ?_ | refine Keep.moved' ?_ ?_ | omega)
  have gx15_29 : H29.get H28.nxt = some (.own [vr140_0, vr140_1, vr140_2]) := by rw [← hG29]; simp (maxSteps := 4000000) (disch := omega) only [Zq, evO, vbox, wr, Zeq, if_true, if_false, Nat.reduceEqDiff, Nat.reduceAdd, Nat.reduceLeDiff, Nat.reduceSub, and_self, and_true, true_and, reduceIte, reduceCtorEq, eq_self, implies_true, forall_const, false_implies, imp_self, decide_true, decide_false]
  have nn29 : H28.nxt + 1 = H29.nxt := by rw [← hG29]; simp only [Zbh, Zbg]
  have n29 := k29.nxt
  have gb0_29 := (k29.get H.nxt (by omega)).trans gb0_28
  have gx4_29 := (k29.get H5.nxt (by omega)).trans gx4_28
  have gx9_29 := (k29.get H10.nxt (by omega)).trans gx9_28
  have k0_29 := k0_28.trans k29
  have or30_29 := (rLocking).ownKeep or30_28 k29
  have or31_29 := ((rSlc rInt)).ownKeep or31_28 k29
  have or80_29 := (rLocking).ownKeep or80_28 k29
  have or81_29 := ((rSlc rInt)).ownKeep or81_28 k29
  have or140_29 := (rLocking).ownKeep or140_28 k29
  have or141_29 := ((rSlc rInt)).ownKeep or141_28 k29
  try simp (maxSteps := 4000000) (disch := omega) only [Zq, evO, vbox, wr, Zeq, if_true, if_false, Nat.reduceEqDiff, Nat.reduceAdd, Nat.reduceLeDiff, Nat.reduceSub, and_self, and_true, true_and, reduceIte, reduceCtorEq, eq_self, implies_true, forall_const, false_implies, imp_self, decide_true, decide_false, vbinB_ne, gb0_29, gx4_29, gx9_29, gx15_29, t1, t6, t7, t10, t11, t13, t105]
  first | refine G_fix [7, 10, 11, 13, 16, 112, 113] ?_ | refine GO_fix [7, 10, 11, 13, 16, 112, 113] ?_ | refine cK_fix [7, 10, 11, 13, 16, 112, 113] ?_
  intro T hT
  simp only [fix_nil, fix_cons, Zq, evO, vbox, wr, Zeq, if_true, if_false, Nat.reduceEqDiff, Nat.reduceAdd, Nat.reduceLeDiff, Nat.reduceSub, and_self, and_true, true_and, reduceIte, reduceCtorEq, eq_self, implies_true, forall_const, false_implies, imp_self, decide_true, decide_false, t1, t6, t7, t10, t11, t13, t105] at hT
  obtain ⟨t7, t10, t11, t13, t16, t112, t113⟩ := hT
  refine GO_call_eq (by (simp (maxSteps := 4000000) (disch := omega) only [Zq, evO, vbox, wr, Zeq, if_true, if_false, Nat.reduceEqDiff, Nat.reduceAdd, Nat.reduceLeDiff, Nat.reduceSub, and_self, and_true, true_and, reduceIte, reduceCtorEq, eq_self, implies_true, forall_const, false_implies, imp_self, decide_true, decide_false, t7, t10, t11, t13, t16, t112, t113]) <;> rfl) ((eqLocking_is H29 [vr140_0, vr140_1, vr140_2] [vr30_0, vr30_1, vr30_2] ((pkR a0 a1).1) ((rLocking).ownrd or140_29) ((rLocking).ownrd or30_29) (by omega)).mono ?_)
  rintro _ H30 ⟨k30, rfl⟩
  have n30 := k30.nxt
  have gb0_30 := (k30.get H.nxt (by omega)).trans gb0_29
  have gx4_30 := (k30.get H5.nxt (by omega)).trans gx4_29
  have gx9_30 := (k30.get H10.nxt (by omega)).trans gx9_29
  have gx15_30 := (k30.get H28.nxt (by omega)).trans gx15_29
  have k0_30 := k0_29.trans k30
  have or30_30 := (rLocking).ownKeep or30_29 k30
  have or31_30 := ((rSlc rInt)).ownKeep or31_29 k30
  have or80_30 := (rLocking).ownKeep or80_29 k30
  have or81_30 := ((rSlc rInt)).ownKeep or81_29 k30
  have or140_30 := (rLocking).ownKeep or140_29 k30
  have or141_30 := ((rSlc rInt)).ownKeep or141_29 k30
  simp (maxSteps := 4000000) (disch := omega) only [Zq, evO, vbox, wr, Zeq, if_true, if_false, Nat.reduceEqDiff, Nat.reduceAdd, Nat.reduceLeDiff, Nat.reduceSub, and_self, and_true, true_and, reduceIte, reduceCtorEq, eq_self, implies_true, forall_const, false_implies, imp_self, decide_true, decide_false, vbinB_ne, gb0_30, gx4_30, gx9_30, gx15_30, t7, t10, t11, t13, t16, t112, t113]
  refine GO_call_eq (by (simp (maxSteps := 4000000) (disch := omega) only [Zq, evO, vbox, wr, Zeq, if_true, if_false, Nat.reduceEqDiff, Nat.reduceAdd, Nat.reduceLeDiff, Nat.reduceSub, and_self, and_true, true_and, reduceIte, reduceCtorEq, eq_self, implies_true, forall_const, false_implies, imp_self, decide_true, decide_false, t7, t10, t11, t13, t16, t112, t113]) <;> rfl) ((eqIntS_is H30 [vr141] [vr31] ((pkR a0 a1).2) (((rSlc rInt)).ownrd or141_30) (((rSlc rInt)).ownrd or31_30) (by omega)).mono ?_)
  rintro _ H31 ⟨k31, rfl⟩
  have n31 := k31.nxt
  have gb0_31 := (k31.get H.nxt (by omega)).trans gb0_30
  have gx4_31 := (k31.get H5.nxt (by omega)).trans gx4_30
  have gx9_31 := (k31.get H10.nxt (by omega)).trans gx9_30
  have gx15_31 := (k31.get H28.nxt (by omega)).trans gx15_30
  have k0_31 := k0_30.trans k31
  have or30_31 := (rLocking).ownKeep or30_30 k31
  have or31_31 := ((rSlc rInt)).ownKeep or31_30 k31
  have or80_31 := (rLocking).ownKeep or80_30 k31
  have or81_31 := ((rSlc rInt)).ownKeep or81_30 k31
  have or140_31 := (rLocking).ownKeep or140_30 k31
  have or141_31 := ((rSlc rInt)).ownKeep or141_30 k31
  simp (maxSteps := 4000000) (disch := omega) only [Zq, evO, vbox, wr, Zeq, if_true, if_false, Nat.reduceEqDiff, Nat.reduceAdd, Nat.reduceLeDiff, Nat.reduceSub, and_self, and_true, true_and, reduceIte, reduceCtorEq, eq_self, implies_true, forall_const, false_implies, imp_self, decide_true, decide_false, vbinB_ne, gb0_31, gx4_31, gx9_31, gx15_31, t7, t10, t11, t13, t16, t112, t113]
  first | refine G_fix [11, 13, 122, 123] ?_ | refine GO_fix [11, 13, 122, 123] ?_ | refine cK_fix [11, 13, 122, 123] ?_
  intro T hT
  simp only [fix_nil, fix_cons, Zq, evO, vbox, wr, Zeq, if_true, if_false, Nat.reduceEqDiff, Nat.reduceAdd, Nat.reduceLeDiff, Nat.reduceSub, and_self, and_true, true_and, reduceIte, reduceCtorEq, eq_self, implies_true, forall_const, false_implies, imp_self, decide_true, decide_false, t7, t10, t11, t13, t16, t112, t113] at hT
  obtain ⟨t11, t13, t122, t123⟩ := hT
  refine GO_call_eq (by (simp (maxSteps := 4000000) (disch := omega) only [Zq, evO, vbox, wr, Zeq, if_true, if_false, Nat.reduceEqDiff, Nat.reduceAdd, Nat.reduceLeDiff, Nat.reduceSub, and_self, and_true, true_and, reduceIte, reduceCtorEq, eq_self, implies_true, forall_const, false_implies, imp_self, decide_true, decide_false, t11, t13, t122, t123]) <;> rfl) ((heldLocking_is H31 [vr80_0, vr80_1, vr80_2] ((pkR a0 a1).1) (1) ((rLocking).ownrd or80_31) (by omega)).mono ?_)
  rintro _ H32 ⟨k32, rfl⟩
  have n32 := k32.nxt
  have gb0_32 := (k32.get H.nxt (by omega)).trans gb0_31
  have gx4_32 := (k32.get H5.nxt (by omega)).trans gx4_31
  have gx9_32 := (k32.get H10.nxt (by omega)).trans gx9_31
  have gx15_32 := (k32.get H28.nxt (by omega)).trans gx15_31
  have k0_32 := k0_31.trans k32
  have or30_32 := (rLocking).ownKeep or30_31 k32
  have or31_32 := ((rSlc rInt)).ownKeep or31_31 k32
  have or80_32 := (rLocking).ownKeep or80_31 k32
  have or81_32 := ((rSlc rInt)).ownKeep or81_31 k32
  have or140_32 := (rLocking).ownKeep or140_31 k32
  have or141_32 := ((rSlc rInt)).ownKeep or141_31 k32
  simp (maxSteps := 4000000) (disch := omega) only [Zq, evO, vbox, wr, Zeq, if_true, if_false, Nat.reduceEqDiff, Nat.reduceAdd, Nat.reduceLeDiff, Nat.reduceSub, and_self, and_true, true_and, reduceIte, reduceCtorEq, eq_self, implies_true, forall_const, false_implies, imp_self, decide_true, decide_false, vbinB_ne, gb0_32, gx4_32, gx9_32, gx15_32, t11, t13, t122, t123]
  refine GO_call_eq (by (simp (maxSteps := 4000000) (disch := omega) only [Zq, evO, vbox, wr, Zeq, if_true, if_false, Nat.reduceEqDiff, Nat.reduceAdd, Nat.reduceLeDiff, Nat.reduceSub, and_self, and_true, true_and, reduceIte, reduceCtorEq, eq_self, implies_true, forall_const, false_implies, imp_self, decide_true, decide_false, t11, t13, t122, t123]) <;> rfl) ((heldIntS_is H32 [vr81] ((pkR a0 a1).2) ((mLocking ((pkR a0 a1).1) (1)).2) (((rSlc rInt)).ownrd or81_32) (by omega)).mono ?_)
  rintro _ H33 ⟨k33, rfl⟩
  have n33 := k33.nxt
  have gb0_33 := (k33.get H.nxt (by omega)).trans gb0_32
  have gx4_33 := (k33.get H5.nxt (by omega)).trans gx4_32
  have gx9_33 := (k33.get H10.nxt (by omega)).trans gx9_32
  have gx15_33 := (k33.get H28.nxt (by omega)).trans gx15_32
  have k0_33 := k0_32.trans k33
  have or30_33 := (rLocking).ownKeep or30_32 k33
  have or31_33 := ((rSlc rInt)).ownKeep or31_32 k33
  have or80_33 := (rLocking).ownKeep or80_32 k33
  have or81_33 := ((rSlc rInt)).ownKeep or81_32 k33
  have or140_33 := (rLocking).ownKeep or140_32 k33
  have or141_33 := ((rSlc rInt)).ownKeep or141_32 k33
  simp (maxSteps := 4000000) (disch := omega) only [Zq, evO, vbox, wr, Zeq, if_true, if_false, Nat.reduceEqDiff, Nat.reduceAdd, Nat.reduceLeDiff, Nat.reduceSub, and_self, and_true, true_and, reduceIte, reduceCtorEq, eq_self, implies_true, forall_const, false_implies, imp_self, decide_true, decide_false, vbinB_ne, gb0_33, gx4_33, gx9_33, gx15_33, t11, t13, t122, t123]
theorem good_Int {H : Heap} {n : Nat} {xs : List Value} (h : Good Try.prog H n 3 xs) : ∃ a, (rInt).rd H xs a ∧ (rInt).fit a := by
  obtain ⟨z, rfl, _⟩ := good_int (k := .i64) (by kernel_rfl) h
  exact ⟨z, rfl, trivial⟩
theorem good_IntS {H : Heap} {n : Nat} {xs : List Value} (h : Good Try.prog H n 24 xs) : ∃ a, ((rSlc rInt)).rd H xs a ∧ ((rSlc rInt)).fit a :=
  good_slcs (e := 3) (c := 1) (by kernel_rfl) (by kernel_rfl) (fun m row _ hg => good_Int hg) rfl h
theorem good_Need {H : Heap} {n : Nat} {xs : List Value} (h : Good Try.prog H n 112 xs) : ∃ a, (rNeed).rd H xs a ∧ (rNeed).fit a := by
  have hl := good_cells (c := 2) (by kernel_rfl) (by kernel_rfl) h
  obtain ⟨c0, c1, rfl⟩ : ∃ c0 c1, xs = [c0, c1] := by
    match xs, hl with
    | [c0, c1], _ => exact ⟨c0, c1, rfl⟩
  obtain ⟨_, f0⟩ := good_field (i := 0) (t' := 3) (o := 0) (c := 1) (by kernel_rfl) h
  obtain ⟨y0, r0, t0⟩ := good_Int f0
  obtain ⟨_, f1⟩ := good_field (i := 1) (t' := 3) (o := 1) (c := 1) (by kernel_rfl) h
  obtain ⟨y1, r1, t1⟩ := good_Int f1
  have e0 : c0 = .int .i64 y0 := by have := r0; simpa [leafRep] using this
  subst e0
  have e1 : c1 = .int .i64 y1 := by have := r1; simpa [leafRep] using this
  subst e1
  exact ⟨(y0, y1), rfl, trivial⟩
theorem good_NeedS {H : Heap} {n : Nat} {xs : List Value} (h : Good Try.prog H n 101 xs) : ∃ a, ((rSlc rNeed)).rd H xs a ∧ ((rSlc rNeed)).fit a :=
  good_slcs (e := 112) (c := 2) (by kernel_rfl) (by kernel_rfl) (fun m row _ hg => good_Need hg) rfl h
theorem good_Route {H : Heap} {n : Nat} {xs : List Value} (h : Good Try.prog H n 103 xs) : ∃ a, (rRoute).rd H xs a ∧ (rRoute).fit a := by
  have hl := good_cells (c := 2) (by kernel_rfl) (by kernel_rfl) h
  obtain ⟨c0, c1, rfl⟩ : ∃ c0 c1, xs = [c0, c1] := by
    match xs, hl with
    | [c0, c1], _ => exact ⟨c0, c1, rfl⟩
  obtain ⟨_, f0⟩ := good_field (i := 0) (t' := 101) (o := 0) (c := 1) (by kernel_rfl) h
  obtain ⟨y0, r0, t0⟩ := good_NeedS f0
  obtain ⟨_, f1⟩ := good_field (i := 1) (t' := 24) (o := 1) (c := 1) (by kernel_rfl) h
  obtain ⟨y1, r1, t1⟩ := good_IntS f1
  exact ⟨(y0, y1), ⟨[c0], _, rfl, r0, r1⟩, t0, t1⟩
theorem good_RouteS {H : Heap} {n : Nat} {xs : List Value} (h : Good Try.prog H n 49 xs) : ∃ a, ((rSlc rRoute)).rd H xs a ∧ ((rSlc rRoute)).fit a :=
  good_slcs (e := 103) (c := 2) (by kernel_rfl) (by kernel_rfl) (fun m row _ hg => good_Route hg) rfl h
theorem good_Plant {H : Heap} {n : Nat} {xs : List Value} (h : Good Try.prog H n 51 xs) : ∃ a, (rPlant).rd H xs a ∧ (rPlant).fit a := by
  have hl := good_cells (c := 3) (by kernel_rfl) (by kernel_rfl) h
  obtain ⟨c0, c1, c2, rfl⟩ : ∃ c0 c1 c2, xs = [c0, c1, c2] := by
    match xs, hl with
    | [c0, c1, c2], _ => exact ⟨c0, c1, c2, rfl⟩
  obtain ⟨_, f0⟩ := good_field (i := 0) (t' := 24) (o := 0) (c := 1) (by kernel_rfl) h
  obtain ⟨y0, r0, t0⟩ := good_IntS f0
  obtain ⟨_, f1⟩ := good_field (i := 1) (t' := 3) (o := 1) (c := 1) (by kernel_rfl) h
  obtain ⟨y1, r1, t1⟩ := good_Int f1
  obtain ⟨_, f2⟩ := good_field (i := 2) (t' := 49) (o := 2) (c := 1) (by kernel_rfl) h
  obtain ⟨y2, r2, t2⟩ := good_RouteS f2
  exact ⟨(y0, y1, y2), ⟨[c0], _, rfl, r0, ⟨[c1], _, rfl, r1, r2⟩⟩, t0, t1, t2⟩
theorem good_LockOp {H : Heap} {n : Nat} {xs : List Value} (h : Good Try.prog H n 91 xs) : ∃ a, (rLockOp).rd H xs a ∧ (rLockOp).fit a := by
  have hl := good_cells (c := 2) (by kernel_rfl) (by kernel_rfl) h
  obtain ⟨c0, c1, rfl⟩ : ∃ c0 c1, xs = [c0, c1] := by
    match xs, hl with
    | [c0, c1], _ => exact ⟨c0, c1, rfl⟩
  obtain ⟨_, f0⟩ := good_field (i := 0) (t' := 3) (o := 0) (c := 1) (by kernel_rfl) h
  obtain ⟨y0, r0, t0⟩ := good_Int f0
  obtain ⟨_, f1⟩ := good_field (i := 1) (t' := 3) (o := 1) (c := 1) (by kernel_rfl) h
  obtain ⟨y1, r1, t1⟩ := good_Int f1
  have e0 : c0 = .int .i64 y0 := by have := r0; simpa [leafRep] using this
  subst e0
  have e1 : c1 = .int .i64 y1 := by have := r1; simpa [leafRep] using this
  subst e1
  exact ⟨(y0, y1), rfl, trivial⟩
theorem good_LockOpS {H : Heap} {n : Nat} {xs : List Value} (h : Good Try.prog H n 61 xs) : ∃ a, ((rSlc rLockOp)).rd H xs a ∧ ((rSlc rLockOp)).fit a :=
  good_slcs (e := 91) (c := 2) (by kernel_rfl) (by kernel_rfl) (fun m row _ hg => good_LockOp hg) rfl h
theorem go_laws_FnExactPlayLock (H : Heap) (xs : List Value) (h : GoodArgs Try.prog H Try.f9.params.toList xs) : ∃ H', CR Try.prog 9 xs H (.bool true) H' := by
  rw [Try.params9] at h
  obtain ⟨w0, l0, rfl, p0, j0⟩ := good_args_cons h
  obtain ⟨w1, l1, rfl, p1, j1⟩ := good_args_cons j0
  obtain rfl := good_args_nil j1
  obtain ⟨ys0, n0, rfl, g0⟩ := goodV_agg (by kernel_rfl) p0
  obtain ⟨a0, e0, t0⟩ := good_Plant g0
  obtain ⟨v0_0, v0_2, rfl, _⟩ := plant_rd (x0 := (a0).1) (x1 := (a0).2.1) (x2 := (a0).2.2) e0
  obtain ⟨_, g1⟩ := goodV_one (by kernel_rfl) p1
  obtain ⟨a1, e1, t1⟩ := good_LockOpS g1
  obtain ⟨r, H', hr, rfl⟩ := r_laws_FnExactPlayLock  e0 t0 e1 t1
  exact ⟨H', hr⟩
end Go.Proofs.Ythjphddodooahaa.AX
