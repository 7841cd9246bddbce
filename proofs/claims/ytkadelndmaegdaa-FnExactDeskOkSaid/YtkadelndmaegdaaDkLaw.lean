/- FnExactDeskOk: the law's run. No condition; of the program: the functions' forms. -/
import Derived.Test.YtkadelndmaegdaaDko
import Derived.Test.YtkadelndmaegdaaAXzg
namespace Go.Proofs.Ytkadelndmaegdaa.AX
open Go
set_option maxRecDepth 10000
set_option maxHeartbeats 4000000
set_option linter.unusedSimpArgs false
set_option linter.unusedVariables false
theorem r_laws_FnExactDeskOk {H : Heap} {v0_1 v0_2 v0_5 v0_6 v0_7 : Value} {a0 : Int × (List (Int × Int × Int × Int)) × (List (ByteArray × (List (Int × Int × Int)))) × Int × Int × (List (Int × Int × Int × Int)) × (List Int) × (List (List Int))} (h0 : (rDesk).rd H [.int .i64 (a0).1, v0_1, v0_2, .int .i64 (a0).2.2.2.1, .int .i64 (a0).2.2.2.2.1, v0_5, v0_6, v0_7] a0) (fit0 : (rDesk).fit a0) : Run Try.prog 4 [.agg #[.int .i64 (a0).1, v0_1, v0_2, .int .i64 (a0).2.2.2.1, .int .i64 (a0).2.2.2.2.1, v0_5, v0_6, v0_7]] H fun r _ => r = .bool true := by
  refine Run.intro c4 rfl ?_
  simp (maxSteps := 4000000) (disch := omega) only [Zq, evO, vbox, wr, Zeq, if_true, if_false, Nat.reduceEqDiff, Nat.reduceAdd, Nat.reduceLeDiff, Nat.reduceSub, and_self, and_true, true_and, reduceIte, reduceCtorEq, eq_self, implies_true, forall_const, false_implies, imp_self, decide_true, decide_false, x4]
  generalize hG0 : (H.push [.int .i64 (a0).1, v0_1, v0_2, .int .i64 (a0).2.2.2.1, .int .i64 (a0).2.2.2.2.1, v0_5, v0_6, v0_7]) = H0
  have k0_0 : Keep H H0 := by rw [← hG0]; repeat' (first | exact Keep.refl _ | assumption | refine Keep.push' ?_ | refine Keep.set' ?_ ?_ | refine Keep.moved' ?_ ?_ | omega)
  have gb0_0 : H0.get H.nxt = some (.own [.int .i64 (a0).1, v0_1, v0_2, .int .i64 (a0).2.2.2.1, .int .i64 (a0).2.2.2.2.1, v0_5, v0_6, v0_7]) := by rw [← hG0]; simp (maxSteps := 4000000) (disch := omega) only [Zq, evO, vbox, wr, Zeq, if_true, if_false, Nat.reduceEqDiff, Nat.reduceAdd, Nat.reduceLeDiff, Nat.reduceSub, and_self, and_true, true_and, reduceIte, reduceCtorEq, eq_self, implies_true, forall_const, false_implies, imp_self, decide_true, decide_false]
  have nn0 : H.nxt + 1 = H0.nxt := by rw [← hG0]; simp only [Zbg]
  refine GO_call ((szDesk_is H0 [.int .i64 (a0).1, v0_1, v0_2, .int .i64 (a0).2.2.2.1, .int .i64 (a0).2.2.2.2.1, v0_5, v0_6, v0_7] a0 1048576 ((rDesk).rdk h0 k0_0) fit0 (by omega)).mono ?_)
  rintro w H1 ⟨k1, hw⟩
  have n1 := k1.nxt
  have gb0_1 := (k1.get H.nxt (by omega)).trans gb0_0
  have k0_1 := k0_0.trans k1
  rcases hw with rfl | ⟨q0, rfl, hq0⟩
  · simp (maxSteps := 4000000) (disch := omega) only [Zq, evO, vbox, wr, Zeq, if_true, if_false, Nat.reduceEqDiff, Nat.reduceAdd, Nat.reduceLeDiff, Nat.reduceSub, and_self, and_true, true_and, reduceIte, reduceCtorEq, eq_self, implies_true, forall_const, false_implies, imp_self, decide_true, decide_false, vbinB_ne, gb0_1]
  simp (maxSteps := 4000000) (disch := omega) only [Zq, evO, vbox, wr, Zeq, if_true, if_false, Nat.reduceEqDiff, Nat.reduceAdd, Nat.reduceLeDiff, Nat.reduceSub, and_self, and_true, true_and, reduceIte, reduceCtorEq, eq_self, implies_true, forall_const, false_implies, imp_self, decide_true, decide_false, vbinB_ne, gb0_1]
  have ht0 : (rDesk).tot a0 ≤ 1048576 := by omega
  first | refine G_fix [1, 12] ?_ | refine GO_fix [1, 12] ?_ | refine cK_fix [1, 12] ?_
  intro T hT
  simp only [fix_nil, fix_cons, Zq, evO, vbox, wr, Zeq, if_true, if_false, Nat.reduceEqDiff, Nat.reduceAdd, Nat.reduceLeDiff, Nat.reduceSub, and_self, and_true, true_and, reduceIte, reduceCtorEq, eq_self, implies_true, forall_const, false_implies, imp_self, decide_true, decide_false] at hT
  obtain ⟨t1, t12⟩ := hT
  refine GO_call_eq (by (simp (maxSteps := 4000000) (disch := omega) only [Zq, evO, vbox, wr, Zeq, if_true, if_false, Nat.reduceEqDiff, Nat.reduceAdd, Nat.reduceLeDiff, Nat.reduceSub, and_self, and_true, true_and, reduceIte, reduceCtorEq, eq_self, implies_true, forall_const, false_implies, imp_self, decide_true, decide_false, t1, t12]) <;> rfl) ((toDesk_is H1 [.int .i64 (a0).1, v0_1, v0_2, .int .i64 (a0).2.2.2.1, .int .i64 (a0).2.2.2.2.1, v0_5, v0_6, v0_7] a0 ((rDesk).rdk h0 k0_1) ht0).mono ?_)
  rintro _ H2 ⟨k2, csy1, Fy1, rfl, oy1_2, fy1⟩
  have n2 := k2.nxt
  have gb0_2 := (k2.get H.nxt (by omega)).trans gb0_1
  have k0_2 := k0_1.trans k2
  obtain ⟨vy1_1, vy1_2, vy1_5, vy1_6, vy1_7, rfl, _⟩ := desk_rd (x0 := (a0).1) (x1 := (a0).2.1) (x2 := (a0).2.2.1) (x3 := (a0).2.2.2.1) (x4 := (a0).2.2.2.2.1) (x5 := (a0).2.2.2.2.2.1) (x6 := (a0).2.2.2.2.2.2.1) (x7 := (a0).2.2.2.2.2.2.2) ((rDesk).ownrd oy1_2)
  simp only [desk_val]
  simp (maxSteps := 4000000) (disch := omega) only [Zq, evO, vbox, wr, Zeq, if_true, if_false, Nat.reduceEqDiff, Nat.reduceAdd, Nat.reduceLeDiff, Nat.reduceSub, and_self, and_true, true_and, reduceIte, reduceCtorEq, eq_self, implies_true, forall_const, false_implies, imp_self, decide_true, decide_false, vbinB_ne, gb0_2, t1, t12]
  refine GO_call_eq (by (simp (maxSteps := 4000000) (disch := omega) only [Zq, evO, vbox, wr, Zeq, if_true, if_false, Nat.reduceEqDiff, Nat.reduceAdd, Nat.reduceLeDiff, Nat.reduceSub, and_self, and_true, true_and, reduceIte, reduceCtorEq, eq_self, implies_true, forall_const, false_implies, imp_self, decide_true, decide_false, t1, t12]) <;> rfl) ((r_spec_DeskOk ((rDesk).ownrd oy1_2) ht0).mono ?_)
  rintro _ H3 ⟨k3, rfl⟩
  have n3 := k3.nxt
  have gb0_3 := (k3.get H.nxt (by omega)).trans gb0_2
  have k0_3 := k0_2.trans k3
  have oy1_3 := (rDesk).ownKeep oy1_2 k3
  simp (maxSteps := 4000000) (disch := omega) only [Zq, evO, vbox, wr, Zeq, if_true, if_false, Nat.reduceEqDiff, Nat.reduceAdd, Nat.reduceLeDiff, Nat.reduceSub, and_self, and_true, true_and, reduceIte, reduceCtorEq, eq_self, implies_true, forall_const, false_implies, imp_self, decide_true, decide_false, vbinB_ne, gb0_3, t1, t12]
  refine GO_call_eq (by (simp (maxSteps := 4000000) (disch := omega) only [Zq, evO, vbox, wr, Zeq, if_true, if_false, Nat.reduceEqDiff, Nat.reduceAdd, Nat.reduceLeDiff, Nat.reduceSub, and_self, and_true, true_and, reduceIte, reduceCtorEq, eq_self, implies_true, forall_const, false_implies, imp_self, decide_true, decide_false, t1, t12]) <;> rfl) ((toDesk_is H3 [.int .i64 (a0).1, v0_1, v0_2, .int .i64 (a0).2.2.2.1, .int .i64 (a0).2.2.2.2.1, v0_5, v0_6, v0_7] a0 ((rDesk).rdk h0 k0_3) ht0).mono ?_)
  rintro _ H4 ⟨k4, csy3, Fy3, rfl, oy3_4, fy3⟩
  have n4 := k4.nxt
  have gb0_4 := (k4.get H.nxt (by omega)).trans gb0_3
  have k0_4 := k0_3.trans k4
  obtain ⟨vy3_1, vy3_2, vy3_5, vy3_6, vy3_7, rfl, _⟩ := desk_rd (x0 := (a0).1) (x1 := (a0).2.1) (x2 := (a0).2.2.1) (x3 := (a0).2.2.2.1) (x4 := (a0).2.2.2.2.1) (x5 := (a0).2.2.2.2.2.1) (x6 := (a0).2.2.2.2.2.2.1) (x7 := (a0).2.2.2.2.2.2.2) ((rDesk).ownrd oy3_4)
  simp only [desk_val]
  simp (maxSteps := 4000000) (disch := omega) only [Zq, evO, vbox, wr, Zeq, if_true, if_false, Nat.reduceEqDiff, Nat.reduceAdd, Nat.reduceLeDiff, Nat.reduceSub, and_self, and_true, true_and, reduceIte, reduceCtorEq, eq_self, implies_true, forall_const, false_implies, imp_self, decide_true, decide_false, vbinB_ne, gb0_4, t1, t12]
  generalize hG5 : ((H4.push [.int .i64 0, .slice none 0 0, .slice none 0 0, .int .i64 0, .int .i64 0, .slice none 0 0, .slice none 0 0, .slice none 0 0]).set H4.nxt [.int .i64 (a0).1, vy3_1, vy3_2, .int .i64 (a0).2.2.2.1, .int .i64 (a0).2.2.2.2.1, vy3_5, vy3_6, vy3_7]) = H5
  have k5 : Keep H4 H5 := by rw [← hG5]; repeat' (first | exact Keep.refl _ | assumption | refine Keep.push' ?_ | refine Keep.set' ?_ ?_ | refine Keep.moved' ?_ ?_ | omega)
  have gx4_5 : H5.get H4.nxt = some (.own [.int .i64 (a0).1, vy3_1, vy3_2, .int .i64 (a0).2.2.2.1, .int .i64 (a0).2.2.2.2.1, vy3_5, vy3_6, vy3_7]) := by rw [← hG5]; simp (maxSteps := 4000000) (disch := omega) only [Zq, evO, vbox, wr, Zeq, if_true, if_false, Nat.reduceEqDiff, Nat.reduceAdd, Nat.reduceLeDiff, Nat.reduceSub, and_self, and_true, true_and, reduceIte, reduceCtorEq, eq_self, implies_true, forall_const, false_implies, imp_self, decide_true, decide_false]
  have nn5 : H4.nxt + 1 = H5.nxt := by rw [← hG5]; simp only [Zbh, Zbg]
  have n5 := k5.nxt
  have gb0_5 := (k5.get H.nxt (by omega)).trans gb0_4
  have k0_5 := k0_4.trans k5
  have oy3_5 := (rDesk).ownKeep oy3_4 k5
  try simp (maxSteps := 4000000) (disch := omega) only [Zq, evO, vbox, wr, Zeq, if_true, if_false, Nat.reduceEqDiff, Nat.reduceAdd, Nat.reduceLeDiff, Nat.reduceSub, and_self, and_true, true_and, reduceIte, reduceCtorEq, eq_self, implies_true, forall_const, false_implies, imp_self, decide_true, decide_false, vbinB_ne, gb0_5, gx4_5, t1, t12]
  first | refine G_fix [1, 4, 5, 17] ?_ | refine GO_fix [1, 4, 5, 17] ?_ | refine cK_fix [1, 4, 5, 17] ?_
  intro T hT
  simp only [fix_nil, fix_cons, Zq, evO, vbox, wr, Zeq, if_true, if_false, Nat.reduceEqDiff, Nat.reduceAdd, Nat.reduceLeDiff, Nat.reduceSub, and_self, and_true, true_and, reduceIte, reduceCtorEq, eq_self, implies_true, forall_const, false_implies, imp_self, decide_true, decide_false, t1, t12] at hT
  obtain ⟨t1, t4, t5, t17⟩ := hT
  refine GO_call_eq (by (simp (maxSteps := 4000000) (disch := omega) only [Zq, evO, vbox, wr, Zeq, if_true, if_false, Nat.reduceEqDiff, Nat.reduceAdd, Nat.reduceLeDiff, Nat.reduceSub, and_self, and_true, true_and, reduceIte, reduceCtorEq, eq_self, implies_true, forall_const, false_implies, imp_self, decide_true, decide_false, t1, t4, t5, t17]) <;> rfl) ((r_impl_DeskOk ((rDesk).ownrd oy3_5) ht0).mono ?_)
  rintro _ H6 ⟨k6, rfl⟩
  have n6 := k6.nxt
  have gb0_6 := (k6.get H.nxt (by omega)).trans gb0_5
  have gx4_6 := (k6.get H4.nxt (by omega)).trans gx4_5
  have k0_6 := k0_5.trans k6
  have oy3_6 := (rDesk).ownKeep oy3_5 k6
  simp (maxSteps := 4000000) (disch := omega) only [Zq, evO, vbox, wr, Zeq, if_true, if_false, Nat.reduceEqDiff, Nat.reduceAdd, Nat.reduceLeDiff, Nat.reduceSub, and_self, and_true, true_and, reduceIte, reduceCtorEq, eq_self, implies_true, forall_const, false_implies, imp_self, decide_true, decide_false, vbinB_ne, gb0_6, gx4_6, t1, t4, t5, t17]
  simp (maxSteps := 4000000) (disch := omega) only [ZD, Zio, Zip, pre_, beq_self_eq_true, Nat.reduceBEq, Zq, evO, vbox, wr, Zeq, if_true, if_false, Nat.reduceEqDiff, Nat.reduceAdd, Nat.reduceLeDiff, Nat.reduceSub, and_self, and_true, true_and, reduceIte, reduceCtorEq, eq_self, implies_true, forall_const, false_implies, imp_self, decide_true, decide_false, G_dreg, vbinB_ne, gb0_6, gx4_6, t1, t4, t5, t17]
  refine GD_call_eq (by (simp (maxSteps := 4000000) (disch := omega) only [Zq, evO, vbox, wr, Zeq, if_true, if_false, Nat.reduceEqDiff, Nat.reduceAdd, Nat.reduceLeDiff, Nat.reduceSub, and_self, and_true, true_and, reduceIte, reduceCtorEq, eq_self, implies_true, forall_const, false_implies, imp_self, decide_true, decide_false, t1, t4, t5, t17]) <;> rfl) ((toDesk_is H6 [.int .i64 (a0).1, v0_1, v0_2, .int .i64 (a0).2.2.2.1, .int .i64 (a0).2.2.2.2.1, v0_5, v0_6, v0_7] a0 ((rDesk).rdk h0 k0_6) ht0).mono ?_)
  rintro _ H7 ⟨k7, csy6, Fy6, rfl, oy6_7, fy6⟩
  have n7 := k7.nxt
  have gb0_7 := (k7.get H.nxt (by omega)).trans gb0_6
  have gx4_7 := (k7.get H4.nxt (by omega)).trans gx4_6
  have k0_7 := k0_6.trans k7
  have oy3_7 := (rDesk).ownKeep oy3_6 k7
  obtain ⟨vy6_1, vy6_2, vy6_5, vy6_6, vy6_7, rfl, _⟩ := desk_rd (x0 := (a0).1) (x1 := (a0).2.1) (x2 := (a0).2.2.1) (x3 := (a0).2.2.2.1) (x4 := (a0).2.2.2.2.1) (x5 := (a0).2.2.2.2.2.1) (x6 := (a0).2.2.2.2.2.2.1) (x7 := (a0).2.2.2.2.2.2.2) ((rDesk).ownrd oy6_7)
  simp only [desk_val]
  simp (maxSteps := 4000000) (disch := omega) only [ZD, Zio, Zip, pre_, beq_self_eq_true, Nat.reduceBEq, Zq, evO, vbox, wr, Zeq, if_true, if_false, Nat.reduceEqDiff, Nat.reduceAdd, Nat.reduceLeDiff, Nat.reduceSub, and_self, and_true, true_and, reduceIte, reduceCtorEq, eq_self, implies_true, forall_const, false_implies, imp_self, decide_true, decide_false, vbinB_ne, gb0_7, gb0_6, gx4_7, gx4_6, t1, t4, t5, t17]
  refine GD_call_eq (by (simp (maxSteps := 4000000) (disch := omega) only [Zq, evO, vbox, wr, Zeq, if_true, if_false, Nat.reduceEqDiff, Nat.reduceAdd, Nat.reduceLeDiff, Nat.reduceSub, and_self, and_true, true_and, reduceIte, reduceCtorEq, eq_self, implies_true, forall_const, false_implies, imp_self, decide_true, decide_false, t1, t4, t5, t17]) <;> rfl) ((eqDesk_is H7 [.int .i64 (a0).1, vy3_1, vy3_2, .int .i64 (a0).2.2.2.1, .int .i64 (a0).2.2.2.2.1, vy3_5, vy3_6, vy3_7] [.int .i64 (a0).1, vy6_1, vy6_2, .int .i64 (a0).2.2.2.1, .int .i64 (a0).2.2.2.2.1, vy6_5, vy6_6, vy6_7] (a0) ((rDesk).ownrd oy3_7) ((rDesk).ownrd oy6_7) (by omega)).mono ?_)
  rintro _ H8 ⟨k8, rfl⟩
  have n8 := k8.nxt
  have gb0_8 := (k8.get H.nxt (by omega)).trans gb0_7
  have gx4_8 := (k8.get H4.nxt (by omega)).trans gx4_7
  have k0_8 := k0_7.trans k8
  have oy3_8 := (rDesk).ownKeep oy3_7 k8
  have oy6_8 := (rDesk).ownKeep oy6_7 k8
  simp (maxSteps := 4000000) (disch := omega) only [ZD, Zio, Zip, pre_, beq_self_eq_true, Nat.reduceBEq, Zq, evO, vbox, wr, Zeq, if_true, if_false, Nat.reduceEqDiff, Nat.reduceAdd, Nat.reduceLeDiff, Nat.reduceSub, and_self, and_true, true_and, reduceIte, reduceCtorEq, eq_self, implies_true, forall_const, false_implies, imp_self, decide_true, decide_false, vbinB_ne, gb0_8, gb0_6, gb0_7, gx4_8, gx4_6, gx4_7, t1, t4, t5, t17]
  first | with_reducible refine And.intro (by repeat' (first | exact trivial | apply And.intro | omega | exact k7.get _ (by omega) | exact k8.get _ (by omega) | (simp only [Zbi, push_get']; split <;> first | omega | rfl))) ?_ | skip
  try simp (maxSteps := 4000000) (disch := omega) only [Zq, evO, vbox, wr, Zeq, if_true, if_false, Nat.reduceEqDiff, Nat.reduceAdd, Nat.reduceLeDiff, Nat.reduceSub, and_self, and_true, true_and, reduceIte, reduceCtorEq, eq_self, implies_true, forall_const, false_implies, imp_self, decide_true, decide_false, vbinB_ne, gb0_8, gx4_8, t1, t4, t5, t17]
theorem good_Int {H : Heap} {n : Nat} {xs : List Value} (h : Good Try.prog H n 3 xs) : ∃ a, (rInt).rd H xs a ∧ (rInt).fit a := by
  obtain ⟨z, rfl, _⟩ := good_int (k := .i64) (by kernel_rfl) h
  exact ⟨z, rfl, trivial⟩
theorem good_Edge {H : Heap} {n : Nat} {xs : List Value} (h : Good Try.prog H n 119 xs) : ∃ a, (rEdge).rd H xs a ∧ (rEdge).fit a := by
  have hl := good_cells (c := 4) (by kernel_rfl) (by kernel_rfl) h
  obtain ⟨c0, c1, c2, c3, rfl⟩ : ∃ c0 c1 c2 c3, xs = [c0, c1, c2, c3] := by
    match xs, hl with
    | [c0, c1, c2, c3], _ => exact ⟨c0, c1, c2, c3, rfl⟩
  obtain ⟨_, f0⟩ := good_field (i := 0) (t' := 3) (o := 0) (c := 1) (by kernel_rfl) h
  obtain ⟨y0, r0, t0⟩ := good_Int f0
  obtain ⟨_, f1⟩ := good_field (i := 1) (t' := 3) (o := 1) (c := 1) (by kernel_rfl) h
  obtain ⟨y1, r1, t1⟩ := good_Int f1
  obtain ⟨_, f2⟩ := good_field (i := 2) (t' := 3) (o := 2) (c := 1) (by kernel_rfl) h
  obtain ⟨y2, r2, t2⟩ := good_Int f2
  obtain ⟨_, f3⟩ := good_field (i := 3) (t' := 3) (o := 3) (c := 1) (by kernel_rfl) h
  obtain ⟨y3, r3, t3⟩ := good_Int f3
  have e0 : c0 = .int .i64 y0 := by have := r0; simpa [leafRep] using this
  subst e0
  have e1 : c1 = .int .i64 y1 := by have := r1; simpa [leafRep] using this
  subst e1
  have e2 : c2 = .int .i64 y2 := by have := r2; simpa [leafRep] using this
  subst e2
  have e3 : c3 = .int .i64 y3 := by have := r3; simpa [leafRep] using this
  subst e3
  exact ⟨(y0, y1, y2, y3), rfl, trivial⟩
theorem good_EdgeS {H : Heap} {n : Nat} {xs : List Value} (h : Good Try.prog H n 39 xs) : ∃ a, ((rSlc rEdge)).rd H xs a ∧ ((rSlc rEdge)).fit a :=
  good_slcs (e := 119) (c := 4) (by kernel_rfl) (by kernel_rfl) (fun m row _ hg => good_Edge hg) rfl h
theorem good_Net {H : Heap} {n : Nat} {xs : List Value} (h : Good Try.prog H n 41 xs) : ∃ a, (rNet).rd H xs a ∧ (rNet).fit a := by
  have hl := good_cells (c := 2) (by kernel_rfl) (by kernel_rfl) h
  obtain ⟨c0, c1, rfl⟩ : ∃ c0 c1, xs = [c0, c1] := by
    match xs, hl with
    | [c0, c1], _ => exact ⟨c0, c1, rfl⟩
  obtain ⟨_, f0⟩ := good_field (i := 0) (t' := 3) (o := 0) (c := 1) (by kernel_rfl) h
  obtain ⟨y0, r0, t0⟩ := good_Int f0
  obtain ⟨_, f1⟩ := good_field (i := 1) (t' := 39) (o := 1) (c := 1) (by kernel_rfl) h
  obtain ⟨y1, r1, t1⟩ := good_EdgeS f1
  exact ⟨(y0, y1), ⟨[c0], _, rfl, r0, r1⟩, t0, t1⟩
theorem good_Str {H : Heap} {n : Nat} {xs : List Value} (h : Good Try.prog H n 9 xs) : ∃ a, (rStr).rd H xs a ∧ (rStr).fit a := by
  obtain ⟨z, rfl, hz⟩ := good_str (by kernel_rfl) h
  exact ⟨z, rfl, hz⟩
theorem good_Call {H : Heap} {n : Nat} {xs : List Value} (h : Good Try.prog H n 126 xs) : ∃ a, (rCall).rd H xs a ∧ (rCall).fit a := by
  have hl := good_cells (c := 3) (by kernel_rfl) (by kernel_rfl) h
  obtain ⟨c0, c1, c2, rfl⟩ : ∃ c0 c1 c2, xs = [c0, c1, c2] := by
    match xs, hl with
    | [c0, c1, c2], _ => exact ⟨c0, c1, c2, rfl⟩
  obtain ⟨_, f0⟩ := good_field (i := 0) (t' := 3) (o := 0) (c := 1) (by kernel_rfl) h
  obtain ⟨y0, r0, t0⟩ := good_Int f0
  obtain ⟨_, f1⟩ := good_field (i := 1) (t' := 3) (o := 1) (c := 1) (by kernel_rfl) h
  obtain ⟨y1, r1, t1⟩ := good_Int f1
  obtain ⟨_, f2⟩ := good_field (i := 2) (t' := 3) (o := 2) (c := 1) (by kernel_rfl) h
  obtain ⟨y2, r2, t2⟩ := good_Int f2
  have e0 : c0 = .int .i64 y0 := by have := r0; simpa [leafRep] using this
  subst e0
  have e1 : c1 = .int .i64 y1 := by have := r1; simpa [leafRep] using this
  subst e1
  have e2 : c2 = .int .i64 y2 := by have := r2; simpa [leafRep] using this
  subst e2
  exact ⟨(y0, y1, y2), rfl, trivial⟩
theorem good_CallS {H : Heap} {n : Nat} {xs : List Value} (h : Good Try.prog H n 89 xs) : ∃ a, ((rSlc rCall)).rd H xs a ∧ ((rSlc rCall)).fit a :=
  good_slcs (e := 126) (c := 3) (by kernel_rfl) (by kernel_rfl) (fun m row _ hg => good_Call hg) rfl h
theorem good_Trip {H : Heap} {n : Nat} {xs : List Value} (h : Good Try.prog H n 91 xs) : ∃ a, (rTrip).rd H xs a ∧ (rTrip).fit a := by
  have hl := good_cells (c := 2) (by kernel_rfl) (by kernel_rfl) h
  obtain ⟨c0, c1, rfl⟩ : ∃ c0 c1, xs = [c0, c1] := by
    match xs, hl with
    | [c0, c1], _ => exact ⟨c0, c1, rfl⟩
  obtain ⟨_, f0⟩ := good_field (i := 0) (t' := 9) (o := 0) (c := 1) (by kernel_rfl) h
  obtain ⟨y0, r0, t0⟩ := good_Str f0
  obtain ⟨_, f1⟩ := good_field (i := 1) (t' := 89) (o := 1) (c := 1) (by kernel_rfl) h
  obtain ⟨y1, r1, t1⟩ := good_CallS f1
  exact ⟨(y0, y1), ⟨[c0], _, rfl, r0, r1⟩, t0, t1⟩
theorem good_TripS {H : Heap} {n : Nat} {xs : List Value} (h : Good Try.prog H n 42 xs) : ∃ a, ((rSlc rTrip)).rd H xs a ∧ ((rSlc rTrip)).fit a :=
  good_slcs (e := 91) (c := 2) (by kernel_rfl) (by kernel_rfl) (fun m row _ hg => good_Trip hg) rfl h
theorem good_Booking {H : Heap} {n : Nat} {xs : List Value} (h : Good Try.prog H n 122 xs) : ∃ a, (rBooking).rd H xs a ∧ (rBooking).fit a := by
  have hl := good_cells (c := 4) (by kernel_rfl) (by kernel_rfl) h
  obtain ⟨c0, c1, c2, c3, rfl⟩ : ∃ c0 c1 c2 c3, xs = [c0, c1, c2, c3] := by
    match xs, hl with
    | [c0, c1, c2, c3], _ => exact ⟨c0, c1, c2, c3, rfl⟩
  obtain ⟨_, f0⟩ := good_field (i := 0) (t' := 3) (o := 0) (c := 1) (by kernel_rfl) h
  obtain ⟨y0, r0, t0⟩ := good_Int f0
  obtain ⟨_, f1⟩ := good_field (i := 1) (t' := 3) (o := 1) (c := 1) (by kernel_rfl) h
  obtain ⟨y1, r1, t1⟩ := good_Int f1
  obtain ⟨_, f2⟩ := good_field (i := 2) (t' := 3) (o := 2) (c := 1) (by kernel_rfl) h
  obtain ⟨y2, r2, t2⟩ := good_Int f2
  obtain ⟨_, f3⟩ := good_field (i := 3) (t' := 3) (o := 3) (c := 1) (by kernel_rfl) h
  obtain ⟨y3, r3, t3⟩ := good_Int f3
  have e0 : c0 = .int .i64 y0 := by have := r0; simpa [leafRep] using this
  subst e0
  have e1 : c1 = .int .i64 y1 := by have := r1; simpa [leafRep] using this
  subst e1
  have e2 : c2 = .int .i64 y2 := by have := r2; simpa [leafRep] using this
  subst e2
  have e3 : c3 = .int .i64 y3 := by have := r3; simpa [leafRep] using this
  subst e3
  exact ⟨(y0, y1, y2, y3), rfl, trivial⟩
theorem good_BookingS {H : Heap} {n : Nat} {xs : List Value} (h : Good Try.prog H n 43 xs) : ∃ a, ((rSlc rBooking)).rd H xs a ∧ ((rSlc rBooking)).fit a :=
  good_slcs (e := 122) (c := 4) (by kernel_rfl) (by kernel_rfl) (fun m row _ hg => good_Booking hg) rfl h
theorem good_Train {H : Heap} {n : Nat} {xs : List Value} (h : Good Try.prog H n 45 xs) : ∃ a, (rTrain).rd H xs a ∧ (rTrain).fit a := by
  have hl := good_cells (c := 3) (by kernel_rfl) (by kernel_rfl) h
  obtain ⟨c0, c1, c2, rfl⟩ : ∃ c0 c1 c2, xs = [c0, c1, c2] := by
    match xs, hl with
    | [c0, c1, c2], _ => exact ⟨c0, c1, c2, rfl⟩
  obtain ⟨_, f0⟩ := good_field (i := 0) (t' := 3) (o := 0) (c := 1) (by kernel_rfl) h
  obtain ⟨y0, r0, t0⟩ := good_Int f0
  obtain ⟨_, f1⟩ := good_field (i := 1) (t' := 3) (o := 1) (c := 1) (by kernel_rfl) h
  obtain ⟨y1, r1, t1⟩ := good_Int f1
  obtain ⟨_, f2⟩ := good_field (i := 2) (t' := 43) (o := 2) (c := 1) (by kernel_rfl) h
  obtain ⟨y2, r2, t2⟩ := good_BookingS f2
  exact ⟨(y0, y1, y2), ⟨[c0], _, rfl, r0, ⟨[c1], _, rfl, r1, r2⟩⟩, t0, t1, t2⟩
theorem good_IntS {H : Heap} {n : Nat} {xs : List Value} (h : Good Try.prog H n 29 xs) : ∃ a, ((rSlc rInt)).rd H xs a ∧ ((rSlc rInt)).fit a :=
  good_slcs (e := 3) (c := 1) (by kernel_rfl) (by kernel_rfl) (fun m row _ hg => good_Int hg) rfl h
theorem good_IntSS {H : Heap} {n : Nat} {xs : List Value} (h : Good Try.prog H n 30 xs) : ∃ a, ((rSlc (rSlc rInt))).rd H xs a ∧ ((rSlc (rSlc rInt))).fit a :=
  good_slcs (e := 29) (c := 1) (by kernel_rfl) (by kernel_rfl) (fun m row _ hg => good_IntS hg) rfl h
theorem good_Sidings {H : Heap} {n : Nat} {xs : List Value} (h : Good Try.prog H n 46 xs) : ∃ a, (rSidings).rd H xs a ∧ (rSidings).fit a := by
  have hl := good_cells (c := 2) (by kernel_rfl) (by kernel_rfl) h
  obtain ⟨c0, c1, rfl⟩ : ∃ c0 c1, xs = [c0, c1] := by
    match xs, hl with
    | [c0, c1], _ => exact ⟨c0, c1, rfl⟩
  obtain ⟨_, f0⟩ := good_field (i := 0) (t' := 29) (o := 0) (c := 1) (by kernel_rfl) h
  obtain ⟨y0, r0, t0⟩ := good_IntS f0
  obtain ⟨_, f1⟩ := good_field (i := 1) (t' := 30) (o := 1) (c := 1) (by kernel_rfl) h
  obtain ⟨y1, r1, t1⟩ := good_IntSS f1
  exact ⟨(y0, y1), ⟨[c0], _, rfl, r0, r1⟩, t0, t1⟩
theorem good_Desk {H : Heap} {n : Nat} {xs : List Value} (h : Good Try.prog H n 48 xs) : ∃ a, (rDesk).rd H xs a ∧ (rDesk).fit a := by
  have hl := good_cells (c := 8) (by kernel_rfl) (by kernel_rfl) h
  obtain ⟨c0, c1, c2, c3, c4, c5, c6, c7, rfl⟩ : ∃ c0 c1 c2 c3 c4 c5 c6 c7, xs = [c0, c1, c2, c3, c4, c5, c6, c7] := by
    match xs, hl with
    | [c0, c1, c2, c3, c4, c5, c6, c7], _ => exact ⟨c0, c1, c2, c3, c4, c5, c6, c7, rfl⟩
  obtain ⟨_, f0⟩ := good_field (i := 0) (t' := 41) (o := 0) (c := 2) (by kernel_rfl) h
  obtain ⟨⟨y0, y1⟩, r0, s0, s1⟩ := good_Net f0
  obtain ⟨_, f1⟩ := good_field (i := 1) (t' := 42) (o := 2) (c := 1) (by kernel_rfl) h
  obtain ⟨y2, r2, s2⟩ := good_TripS f1
  obtain ⟨_, f2⟩ := good_field (i := 2) (t' := 45) (o := 3) (c := 3) (by kernel_rfl) h
  obtain ⟨⟨y3, y4, y5⟩, r3, s3, s4, s5⟩ := good_Train f2
  obtain ⟨_, f3⟩ := good_field (i := 3) (t' := 46) (o := 6) (c := 2) (by kernel_rfl) h
  obtain ⟨⟨y6, y7⟩, r6, s6, s7⟩ := good_Sidings f3
  obtain ⟨v1, e1, q1⟩ := net_rd r0
  obtain ⟨v5, e5, q5⟩ := train_rd r3
  obtain ⟨v6, v7, e6, q6, q7⟩ := sidings_rd r6
  have e1' : [c0, c1] = [.int .i64 y0, v1] := e1
  have e5' : [c3, c4, c5] = [.int .i64 y3, .int .i64 y4, v5] := e5
  have e6' : [c6, c7] = [v6, v7] := e6
  have q2 : (rSlc rTrip).rd H [c2] y2 := r2
  simp only [List.cons.injEq, and_true] at e1' e5' e6'
  obtain ⟨rfl, rfl⟩ := e1'
  obtain ⟨rfl, rfl, rfl⟩ := e5'
  obtain ⟨rfl, rfl⟩ := e6'
  exact ⟨(y0, y1, y2, y3, y4, y5, y6, y7), desk_rd' q1 q2 q5 q6 q7, s0, s1, s2, s3, s4, s5, s6, s7⟩
theorem go_laws_FnExactDeskOk (H : Heap) (xs : List Value) (h : GoodArgs Try.prog H Try.f4.params.toList xs) : ∃ H', CR Try.prog 4 xs H (.bool true) H' := by
  rw [Try.params4] at h
  obtain ⟨w0, l0, rfl, p0, j0⟩ := good_args_cons h
  obtain rfl := good_args_nil j0
  obtain ⟨ys0, n0, rfl, g0⟩ := goodV_agg (by kernel_rfl) p0
  obtain ⟨a0, e0, t0⟩ := good_Desk g0
  obtain ⟨v0_1, v0_2, v0_5, v0_6, v0_7, rfl, _⟩ := desk_rd (x0 := (a0).1) (x1 := (a0).2.1) (x2 := (a0).2.2.1) (x3 := (a0).2.2.2.1) (x4 := (a0).2.2.2.2.1) (x5 := (a0).2.2.2.2.2.1) (x6 := (a0).2.2.2.2.2.2.1) (x7 := (a0).2.2.2.2.2.2.2) e0
  obtain ⟨r, H', hr, rfl⟩ := r_laws_FnExactDeskOk  e0 t0
  exact ⟨H', hr⟩
end Go.Proofs.Ytkadelndmaegdaa.AX
