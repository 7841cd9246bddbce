/- FnExactRequest: the law's run. No condition; of the program: the functions' forms. -/
import Derived.Test.YthjphddodooahaaPlm
namespace Go.Proofs.Ythjphddodooahaa.AX
open Go
set_option maxRecDepth 10000
set_option maxHeartbeats 4000000
set_option linter.unusedSimpArgs false
set_option linter.unusedVariables false
theorem op_law {f : FuncId} {opf : List Int → Int → List Rt → Lo → Int → Lo × Int} (hf : ∀ {H : Heap} {vu vr vp vs vt : Value} {under : List Int} {b : Int} {routes : List Rt} {pos : List Int} {set taken : List Bool} {k : Int}, (rSlc rInt).rd H [vu] under → (rSlc rRoute).rd H [vr] routes → (rSlc rInt).rd H [vp] pos → (rSlc rBool).rd H [vs] set → (rSlc rBool).rd H [vt] taken → rPlant.tot (under, b, routes) ≤ 1048576 → rLocking.tot (pos, set, taken) ≤ 1048576 →
    Run Try.prog f [.agg #[vu, .int .i64 b, vr], .agg #[vp, vs, vt], .int .i64 k] H fun r H' => Keep H H' ∧ ∃ cs F, r = .tuple #[rLocking.val cs, .int .i64 (opR opf (under, b, routes) (pos, set, taken) k).2] ∧ rLocking.own H' cs (opR opf (under, b, routes) (pos, set, taken) k).1 F ∧ Fresh H H' F)
    {H : Heap} {vu vr vp vs vt : Value} {p : List Int × Int × List Rt} {L : Lo} {k : Int} (h1 : rPlant.rd H [vu, .int .i64 p.2.1, vr] p) (h2 : rLocking.rd H [vp, vs, vt] L) (t1 : rPlant.tot p ≤ 1048576) (t2 : rLocking.tot L ≤ 1048576) :
    Run Try.prog f [.agg #[vu, .int .i64 p.2.1, vr], .agg #[vp, vs, vt], .int .i64 k] H fun r H' => Keep H H' ∧ ∃ cs F, r = .tuple #[rLocking.val cs, .int .i64 (opR opf p L k).2] ∧ rLocking.own H' cs (opR opf p L k).1 F ∧ Fresh H H' F := by
  obtain ⟨a, c, e, q1, q2⟩ := plant_rd (x0 := p.1) (x1 := p.2.1) (x2 := p.2.2) h1
  simp only [List.cons.injEq, and_true, true_and] at e
  obtain ⟨rfl, rfl⟩ := e
  obtain ⟨a, c, d, e, q3, q4, q5⟩ := locking_rd (x0 := L.1) (x1 := L.2.1) (x2 := L.2.2) h2
  simp only [List.cons.injEq, and_true] at e
  obtain ⟨rfl, rfl, rfl⟩ := e
  exact hf q1 q2 q3 q4 q5 t1 t2
theorem opR_tot {opf : List Int → Int → List Rt → Lo → Int → Lo × Int} {p : List Int × Int × List Rt} {L : Lo} {k : Int} {n : Nat} (ho : rLocking.tot (opf p.1 p.2.1 p.2.2 L k).1 = rLocking.tot L) (h : rLocking.tot L ≤ n) : rLocking.tot (opR opf p L k).1 ≤ n := by
  unfold opR
  split
  · rw [ho]; exact h
  · exact h
theorem lo_tot {L M : Lo} (h0 : L.1.length = M.1.length) (h1 : L.2.1.length = M.2.1.length) (h2 : L.2.2.length = M.2.2.length) : rLocking.tot L = rLocking.tot M := by
  obtain ⟨a, b, c⟩ := L
  obtain ⟨d, e, f⟩ := M
  rw [locking_tot, locking_tot, leaf_tot, leaf_tot, leaf_tot, leaf_tot, leaf_tot, leaf_tot]
  simp only at h0 h1 h2
  omega
theorem rqR_tot (under : List Int) (b : Int) (routes : List Rt) (L : Lo) (k : Int) : rLocking.tot (rqR under b routes L k).1 = rLocking.tot L := by
  unfold rqR
  split
  · split
    · rfl
    · split
      · split
        · split
          · exact lo_tot (setN_len _) (List.length_set ..) rfl
          · rfl
        · rfl
      · rfl
  · rfl
theorem r_laws_FnExactRequest {H : Heap} {v0_0 v0_2 : Value} {a0 : (List Int) × Int × (List ((List (Int × Int)) × (List Int)))} {v1_0 v1_1 v1_2 : Value} {a1 : (List Int) × (List Bool) × (List Bool)} {a2 : Int} (h0 : (rPlant).rd H [v0_0, .int .i64 (a0).2.1, v0_2] a0) (fit0 : (rPlant).fit a0) (h1 : (rLocking).rd H [v1_0, v1_1, v1_2] a1) (fit1 : (rLocking).fit a1) : Run Try.prog 8 [.agg #[v0_0, .int .i64 (a0).2.1, v0_2], .agg #[v1_0, v1_1, v1_2], .int .i64 a2] H fun r _ => r = .bool true := by
  refine Run.intro c8 rfl ?_
  simp (maxSteps := 4000000) (disch := omega) only [Zq, evO, vbox, wr, Zeq, if_true, if_false, Nat.reduceEqDiff, Nat.reduceAdd, Nat.reduceLeDiff, Nat.reduceSub, and_self, and_true, true_and, reduceIte, reduceCtorEq, eq_self, implies_true, forall_const, false_implies, imp_self, decide_true, decide_false, x8]
  generalize hG0 : ((H.push [v0_0, .int .i64 (a0).2.1, v0_2]).push [v1_0, v1_1, v1_2]) = H0
  have k0_0 : Keep H H0 := by rw [← hG0]; repeat' (first | exact Keep.refl _ | assumption | refine Keep.push' ?_ | refine Keep.set' ?_ ?_ | refine Keep.moved' ?_ ?_ | omega)
  have gb0_0 : H0.get H.nxt = some (.own [v0_0, .int .i64 (a0).2.1, v0_2]) := by rw [← hG0]; simp (maxSteps := 4000000) (disch := omega) only [Zq, evO, vbox, wr, Zeq, if_true, if_false, Nat.reduceEqDiff, Nat.reduceAdd, Nat.reduceLeDiff, Nat.reduceSub, and_self, and_true, true_and, reduceIte, reduceCtorEq, eq_self, implies_true, forall_const, false_implies, imp_self, decide_true, decide_false]
  have gb1_0 : H0.get (H.nxt + 1) = some (.own [v1_0, v1_1, v1_2]) := by rw [← hG0]; simp (maxSteps := 4000000) (disch := omega) only [Zq, evO, vbox, wr, Zeq, if_true, if_false, Nat.reduceEqDiff, Nat.reduceAdd, Nat.reduceLeDiff, Nat.reduceSub, and_self, and_true, true_and, reduceIte, reduceCtorEq, eq_self, implies_true, forall_const, false_implies, imp_self, decide_true, decide_false]
  have nn0 : H.nxt + 2 = H0.nxt := by rw [← hG0]; simp only [Zbg]
  refine GO_call ((szPlant_is H0 [v0_0, .int .i64 (a0).2.1, v0_2] a0 1048576 ((rPlant).rdk h0 k0_0) fit0 (by omega)).mono ?_)
  rintro w H1 ⟨k1, hw⟩
  have n1 := k1.nxt
  have gb0_1 := (k1.get H.nxt (by omega)).trans gb0_0
  have gb1_1 := (k1.get (H.nxt + 1) (by omega)).trans gb1_0
  have k0_1 := k0_0.trans k1
  rcases hw with rfl | ⟨q0, rfl, hq0⟩
  · simp (maxSteps := 4000000) (disch := omega) only [Zq, evO, vbox, wr, Zeq, if_true, if_false, Nat.reduceEqDiff, Nat.reduceAdd, Nat.reduceLeDiff, Nat.reduceSub, and_self, and_true, true_and, reduceIte, reduceCtorEq, eq_self, implies_true, forall_const, false_implies, imp_self, decide_true, decide_false, vbinB_ne, gb0_1, gb1_1]
  simp (maxSteps := 4000000) (disch := omega) only [Zq, evO, vbox, wr, Zeq, if_true, if_false, Nat.reduceEqDiff, Nat.reduceAdd, Nat.reduceLeDiff, Nat.reduceSub, and_self, and_true, true_and, reduceIte, reduceCtorEq, eq_self, implies_true, forall_const, false_implies, imp_self, decide_true, decide_false, vbinB_ne, gb0_1, gb1_1]
  have ht0 : (rPlant).tot a0 ≤ 1048576 := by omega
  first | refine G_fix [2, 3, 4, 24, 25] ?_ | refine GO_fix [2, 3, 4, 24, 25] ?_ | refine cK_fix [2, 3, 4, 24, 25] ?_
  intro T hT
  simp only [fix_nil, fix_cons, Zq, evO, vbox, wr, Zeq, if_true, if_false, Nat.reduceEqDiff, Nat.reduceAdd, Nat.reduceLeDiff, Nat.reduceSub, and_self, and_true, true_and, reduceIte, reduceCtorEq, eq_self, implies_true, forall_const, false_implies, imp_self, decide_true, decide_false] at hT
  obtain ⟨t2, t3, t4, t24, t25⟩ := hT
  refine GO_call_eq (by (simp (maxSteps := 4000000) (disch := omega) only [Zq, evO, vbox, wr, Zeq, if_true, if_false, Nat.reduceEqDiff, Nat.reduceAdd, Nat.reduceLeDiff, Nat.reduceSub, and_self, and_true, true_and, reduceIte, reduceCtorEq, eq_self, implies_true, forall_const, false_implies, imp_self, decide_true, decide_false, t2, t3, t4, t24, t25]) <;> rfl) ((szLocking_is H1 [v1_0, v1_1, v1_2] a1 q0 ((rLocking).rdk h1 k0_1) fit1 (by omega)).mono ?_)
  rintro w H2 ⟨k2, hw⟩
  have n2 := k2.nxt
  have gb0_2 := (k2.get H.nxt (by omega)).trans gb0_1
  have gb1_2 := (k2.get (H.nxt + 1) (by omega)).trans gb1_1
  have k0_2 := k0_1.trans k2
  rcases hw with rfl | ⟨q1, rfl, hq1⟩
  · simp (maxSteps := 4000000) (disch := omega) only [Zq, evO, vbox, wr, Zeq, if_true, if_false, Nat.reduceEqDiff, Nat.reduceAdd, Nat.reduceLeDiff, Nat.reduceSub, and_self, and_true, true_and, reduceIte, reduceCtorEq, eq_self, implies_true, forall_const, false_implies, imp_self, decide_true, decide_false, vbinB_ne, gb0_2, gb1_2, t2, t3, t4, t24, t25]
  simp (maxSteps := 4000000) (disch := omega) only [Zq, evO, vbox, wr, Zeq, if_true, if_false, Nat.reduceEqDiff, Nat.reduceAdd, Nat.reduceLeDiff, Nat.reduceSub, and_self, and_true, true_and, reduceIte, reduceCtorEq, eq_self, implies_true, forall_const, false_implies, imp_self, decide_true, decide_false, vbinB_ne, gb0_2, gb1_2, t2, t3, t4, t24, t25]
  have ht1 : (rLocking).tot a1 ≤ 1048576 := by omega
  simp (maxSteps := 4000000) (disch := omega) only [ZD, Zio, Zip, pre_, beq_self_eq_true, Nat.reduceBEq, Zq, evO, vbox, wr, Zeq, if_true, if_false, Nat.reduceEqDiff, Nat.reduceAdd, Nat.reduceLeDiff, Nat.reduceSub, and_self, and_true, true_and, reduceIte, reduceCtorEq, eq_self, implies_true, forall_const, false_implies, imp_self, decide_true, decide_false, G_dreg, vbinB_ne, gb0_2, gb1_2, t2, t3, t4, t24, t25]
  refine GD_call_eq (by (simp (maxSteps := 4000000) (disch := omega) only [Zq, evO, vbox, wr, Zeq, if_true, if_false, Nat.reduceEqDiff, Nat.reduceAdd, Nat.reduceLeDiff, Nat.reduceSub, and_self, and_true, true_and, reduceIte, reduceCtorEq, eq_self, implies_true, forall_const, false_implies, imp_self, decide_true, decide_false, t2, t3, t4, t24, t25]) <;> rfl) ((toPlant_is H2 [v0_0, .int .i64 (a0).2.1, v0_2] a0 ((rPlant).rdk h0 k0_2) ht0).mono ?_)
  rintro _ H3 ⟨k3, csy1, Fy1, rfl, oy1_3, fy1⟩
  have n3 := k3.nxt
  have gb0_3 := (k3.get H.nxt (by omega)).trans gb0_2
  have gb1_3 := (k3.get (H.nxt + 1) (by omega)).trans gb1_2
  have k0_3 := k0_2.trans k3
  obtain ⟨vy1_0, vy1_2, rfl, _⟩ := plant_rd (x0 := (a0).1) (x1 := (a0).2.1) (x2 := (a0).2.2) ((rPlant).ownrd oy1_3)
  simp only [plant_val]
  simp (maxSteps := 4000000) (disch := omega) only [ZD, Zio, Zip, pre_, beq_self_eq_true, Nat.reduceBEq, Zq, evO, vbox, wr, Zeq, if_true, if_false, Nat.reduceEqDiff, Nat.reduceAdd, Nat.reduceLeDiff, Nat.reduceSub, and_self, and_true, true_and, reduceIte, reduceCtorEq, eq_self, implies_true, forall_const, false_implies, imp_self, decide_true, decide_false, vbinB_ne, gb0_3, gb0_2, gb1_3, gb1_2, t2, t3, t4, t24, t25]
  refine GD_call_eq (by (simp (maxSteps := 4000000) (disch := omega) only [Zq, evO, vbox, wr, Zeq, if_true, if_false, Nat.reduceEqDiff, Nat.reduceAdd, Nat.reduceLeDiff, Nat.reduceSub, and_self, and_true, true_and, reduceIte, reduceCtorEq, eq_self, implies_true, forall_const, false_implies, imp_self, decide_true, decide_false, t2, t3, t4, t24, t25]) <;> rfl) ((toLocking_is H3 [v1_0, v1_1, v1_2] a1 ((rLocking).rdk h1 k0_3) ht1).mono ?_)
  rintro _ H4 ⟨k4, csy2, Fy2, rfl, oy2_4, fy2⟩
  have n4 := k4.nxt
  have gb0_4 := (k4.get H.nxt (by omega)).trans gb0_3
  have gb1_4 := (k4.get (H.nxt + 1) (by omega)).trans gb1_3
  have k0_4 := k0_3.trans k4
  have oy1_4 := (rPlant).ownKeep oy1_3 k4
  obtain ⟨vy2_0, vy2_1, vy2_2, rfl, _⟩ := locking_rd (x0 := (a1).1) (x1 := (a1).2.1) (x2 := (a1).2.2) ((rLocking).ownrd oy2_4)
  simp only [locking_val]
  simp (maxSteps := 4000000) (disch := omega) only [ZD, Zio, Zip, pre_, beq_self_eq_true, Nat.reduceBEq, Zq, evO, vbox, wr, Zeq, if_true, if_false, Nat.reduceEqDiff, Nat.reduceAdd, Nat.reduceLeDiff, Nat.reduceSub, and_self, and_true, true_and, reduceIte, reduceCtorEq, eq_self, implies_true, forall_const, false_implies, imp_self, decide_true, decide_false, vbinB_ne, gb0_4, gb0_2, gb0_3, gb1_4, gb1_2, gb1_3, t2, t3, t4, t24, t25]
  have hR0 : (rLocking).tot (((opR rqR a0 a1 a2)).1) ≤ 1048576 := opR_tot (rqR_tot ..) ht1
  refine GD_call_eq (by (simp (maxSteps := 4000000) (disch := omega) only [Zq, evO, vbox, wr, Zeq, if_true, if_false, Nat.reduceEqDiff, Nat.reduceAdd, Nat.reduceLeDiff, Nat.reduceSub, and_self, and_true, true_and, reduceIte, reduceCtorEq, eq_self, implies_true, forall_const, false_implies, imp_self, decide_true, decide_false, t2, t3, t4, t24, t25]) <;> rfl) ((op_law r_spec_Request ((rPlant).ownrd oy1_4) ((rLocking).ownrd oy2_4) ht0 ht1).mono ?_)
  rintro _ H5 ⟨k5, csr30, Fr30, rfl, or30_5, fr30⟩
  have n5 := k5.nxt
  have gb0_5 := (k5.get H.nxt (by omega)).trans gb0_4
  have gb1_5 := (k5.get (H.nxt + 1) (by omega)).trans gb1_4
  have k0_5 := k0_4.trans k5
  have oy1_5 := (rPlant).ownKeep oy1_4 k5
  have oy2_5 := (rLocking).ownKeep oy2_4 k5
  obtain ⟨vr30_0, vr30_1, vr30_2, rfl, _⟩ := locking_rd (x0 := (((opR rqR a0 a1 a2)).1).1) (x1 := (((opR rqR a0 a1 a2)).1).2.1) (x2 := (((opR rqR a0 a1 a2)).1).2.2) ((rLocking).ownrd or30_5)
  simp only [locking_val]
  simp (maxSteps := 4000000) (disch := omega) only [ZD, Zio, Zip, pre_, beq_self_eq_true, Nat.reduceBEq, Zq, evO, vbox, wr, Zeq, if_true, if_false, Nat.reduceEqDiff, Nat.reduceAdd, Nat.reduceLeDiff, Nat.reduceSub, and_self, and_true, true_and, reduceIte, reduceCtorEq, eq_self, implies_true, forall_const, false_implies, imp_self, decide_true, decide_false, vbinB_ne, gb0_5, gb0_2, gb0_3, gb0_4, gb1_5, gb1_2, gb1_3, gb1_4, t2, t3, t4, t24, t25]
  generalize hG6 : ((H5.push [.slice none 0 0, .slice none 0 0, .slice none 0 0]).set H5.nxt [vr30_0, vr30_1, vr30_2]) = H6
  have k6 : Keep H5 H6 := by rw [← hG6]; repeat' (first | exact Keep.refl _ | assumption | refine Keep.push' ?_ | refine Keep.set' ?_ ?_ | refine Keep.moved' ?_ ?_ | omega)
  have gx4_6 : H6.get H5.nxt = some (.own [vr30_0, vr30_1, vr30_2]) := by rw [← hG6]; simp (maxSteps := 4000000) (disch := omega) only [Zq, evO, vbox, wr, Zeq, if_true, if_false, Nat.reduceEqDiff, Nat.reduceAdd, Nat.reduceLeDiff, Nat.reduceSub, and_self, and_true, true_and, reduceIte, reduceCtorEq, eq_self, implies_true, forall_const, false_implies, imp_self, decide_true, decide_false]
  have nn6 : H5.nxt + 1 = H6.nxt := by rw [← hG6]; simp only [Zbh, Zbg]
  have n6 := k6.nxt
  have gb0_6 := (k6.get H.nxt (by omega)).trans gb0_5
  have gb1_6 := (k6.get (H.nxt + 1) (by omega)).trans gb1_5
  have k0_6 := k0_5.trans k6
  have or30_6 := (rLocking).ownKeep or30_5 k6
  try simp (maxSteps := 4000000) (disch := omega) only [ZD, Zio, Zip, pre_, beq_self_eq_true, Nat.reduceBEq, Zq, evO, vbox, wr, Zeq, if_true, if_false, Nat.reduceEqDiff, Nat.reduceAdd, Nat.reduceLeDiff, Nat.reduceSub, and_self, and_true, true_and, reduceIte, reduceCtorEq, eq_self, implies_true, forall_const, false_implies, imp_self, decide_true, decide_false, vbinB_ne, gb0_6, gb0_2, gb0_3, gb0_4, gb0_5, gb1_6, gb1_2, gb1_3, gb1_4, gb1_5, gx4_6, t2, t3, t4, t24, t25]
  first | with_reducible refine And.intro (by repeat' (first | exact trivial | apply And.intro | omega | exact k3.get _ (by omega) | exact k4.get _ (by omega) | exact k5.get _ (by omega) | exact k6.get _ (by omega) | (simp only [Zbi, push_get']; split <;> first | omega | rfl))) ?_ | skip
  try simp (maxSteps := 4000000) (disch := omega) only [Zq, evO, vbox, wr, Zeq, if_true, if_false, Nat.reduceEqDiff, Nat.reduceAdd, Nat.reduceLeDiff, Nat.reduceSub, and_self, and_true, true_and, reduceIte, reduceCtorEq, eq_self, implies_true, forall_const, false_implies, imp_self, decide_true, decide_false, vbinB_ne, gb0_6, gb1_6, gx4_6, t2, t3, t4, t24, t25]
  first | refine G_fix [2, 3, 4, 8, 9, 38] ?_ | refine GO_fix [2, 3, 4, 8, 9, 38] ?_ | refine cK_fix [2, 3, 4, 8, 9, 38] ?_
  intro T hT
  simp only [fix_nil, fix_cons, Zq, evO, vbox, wr, Zeq, if_true, if_false, Nat.reduceEqDiff, Nat.reduceAdd, Nat.reduceLeDiff, Nat.reduceSub, and_self, and_true, true_and, reduceIte, reduceCtorEq, eq_self, implies_true, forall_const, false_implies, imp_self, decide_true, decide_false, t2, t3, t4, t24, t25] at hT
  obtain ⟨t2, t3, t4, t8, t9, t38⟩ := hT
  refine GO_call_eq (by (simp (maxSteps := 4000000) (disch := omega) only [Zq, evO, vbox, wr, Zeq, if_true, if_false, Nat.reduceEqDiff, Nat.reduceAdd, Nat.reduceLeDiff, Nat.reduceSub, and_self, and_true, true_and, reduceIte, reduceCtorEq, eq_self, implies_true, forall_const, false_implies, imp_self, decide_true, decide_false, t2, t3, t4, t8, t9, t38]) <;> rfl) ((toPlant_is H6 [v0_0, .int .i64 (a0).2.1, v0_2] a0 ((rPlant).rdk h0 k0_6) ht0).mono ?_)
  rintro _ H7 ⟨k7, csy5, Fy5, rfl, oy5_7, fy5⟩
  have n7 := k7.nxt
  have gb0_7 := (k7.get H.nxt (by omega)).trans gb0_6
  have gb1_7 := (k7.get (H.nxt + 1) (by omega)).trans gb1_6
  have gx4_7 := (k7.get H5.nxt (by omega)).trans gx4_6
  have k0_7 := k0_6.trans k7
  have or30_7 := (rLocking).ownKeep or30_6 k7
  obtain ⟨vy5_0, vy5_2, rfl, _⟩ := plant_rd (x0 := (a0).1) (x1 := (a0).2.1) (x2 := (a0).2.2) ((rPlant).ownrd oy5_7)
  simp only [plant_val]
  simp (maxSteps := 4000000) (disch := omega) only [Zq, evO, vbox, wr, Zeq, if_true, if_false, Nat.reduceEqDiff, Nat.reduceAdd, Nat.reduceLeDiff, Nat.reduceSub, and_self, and_true, true_and, reduceIte, reduceCtorEq, eq_self, implies_true, forall_const, false_implies, imp_self, decide_true, decide_false, vbinB_ne, gb0_7, gb1_7, gx4_7, t2, t3, t4, t8, t9, t38]
  generalize hG8 : ((H7.push [.slice none 0 0, .int .i64 0, .slice none 0 0]).set H7.nxt [vy5_0, .int .i64 (a0).2.1, vy5_2]) = H8
  have k8 : Keep H7 H8 := by rw [← hG8]; repeat' (first | exact Keep.refl _ | assumption | refine Keep.push' ?_ | refine Keep.set' ?_ ?_ | refine Keep.moved' ?_ ?_ | omega)
  have gx6_8 : H8.get H7.nxt = some (.own [vy5_0, .int .i64 (a0).2.1, vy5_2]) := by rw [← hG8]; simp (maxSteps := 4000000) (disch := omega) only [Zq, evO, vbox, wr, Zeq, if_true, if_false, Nat.reduceEqDiff, Nat.reduceAdd, Nat.reduceLeDiff, Nat.reduceSub, and_self, and_true, true_and, reduceIte, reduceCtorEq, eq_self, implies_true, forall_const, false_implies, imp_self, decide_true, decide_false]
  have nn8 : H7.nxt + 1 = H8.nxt := by rw [← hG8]; simp only [Zbh, Zbg]
  have n8 := k8.nxt
  have gb0_8 := (k8.get H.nxt (by omega)).trans gb0_7
  have gb1_8 := (k8.get (H.nxt + 1) (by omega)).trans gb1_7
  have gx4_8 := (k8.get H5.nxt (by omega)).trans gx4_7
  have k0_8 := k0_7.trans k8
  have or30_8 := (rLocking).ownKeep or30_7 k8
  have oy5_8 := (rPlant).ownKeep oy5_7 k8
  try simp (maxSteps := 4000000) (disch := omega) only [Zq, evO, vbox, wr, Zeq, if_true, if_false, Nat.reduceEqDiff, Nat.reduceAdd, Nat.reduceLeDiff, Nat.reduceSub, and_self, and_true, true_and, reduceIte, reduceCtorEq, eq_self, implies_true, forall_const, false_implies, imp_self, decide_true, decide_false, vbinB_ne, gb0_8, gb1_8, gx4_8, gx6_8, t2, t3, t4, t8, t9, t38]
  refine GO_call_eq (by (simp (maxSteps := 4000000) (disch := omega) only [Zq, evO, vbox, wr, Zeq, if_true, if_false, Nat.reduceEqDiff, Nat.reduceAdd, Nat.reduceLeDiff, Nat.reduceSub, and_self, and_true, true_and, reduceIte, reduceCtorEq, eq_self, implies_true, forall_const, false_implies, imp_self, decide_true, decide_false, t2, t3, t4, t8, t9, t38]) <;> rfl) ((toLocking_is H8 [v1_0, v1_1, v1_2] a1 ((rLocking).rdk h1 k0_8) ht1).mono ?_)
  rintro _ H9 ⟨k9, csy7, Fy7, rfl, oy7_9, fy7⟩
  have n9 := k9.nxt
  have gb0_9 := (k9.get H.nxt (by omega)).trans gb0_8
  have gb1_9 := (k9.get (H.nxt + 1) (by omega)).trans gb1_8
  have gx4_9 := (k9.get H5.nxt (by omega)).trans gx4_8
  have gx6_9 := (k9.get H7.nxt (by omega)).trans gx6_8
  have k0_9 := k0_8.trans k9
  have or30_9 := (rLocking).ownKeep or30_8 k9
  have oy5_9 := (rPlant).ownKeep oy5_8 k9
  obtain ⟨vy7_0, vy7_1, vy7_2, rfl, _⟩ := locking_rd (x0 := (a1).1) (x1 := (a1).2.1) (x2 := (a1).2.2) ((rLocking).ownrd oy7_9)
  simp only [locking_val]
  simp (maxSteps := 4000000) (disch := omega) only [Zq, evO, vbox, wr, Zeq, if_true, if_false, Nat.reduceEqDiff, Nat.reduceAdd, Nat.reduceLeDiff, Nat.reduceSub, and_self, and_true, true_and, reduceIte, reduceCtorEq, eq_self, implies_true, forall_const, false_implies, imp_self, decide_true, decide_false, vbinB_ne, gb0_9, gb1_9, gx4_9, gx6_9, t2, t3, t4, t8, t9, t38]
  generalize hG10 : ((H9.push [.slice none 0 0, .slice none 0 0, .slice none 0 0]).set H9.nxt [vy7_0, vy7_1, vy7_2]) = H10
  have k10 : Keep H9 H10 := by rw [← hG10]; repeat' (first | exact Keep.refl _ | assumption | refine Keep.push' ?_ | refine Keep.set' ?_ ?_ | refine Keep.moved' ?_ ?_ | omega)
  have gx8_10 : H10.get H9.nxt = some (.own [vy7_0, vy7_1, vy7_2]) := by rw [← hG10]; simp (maxSteps := 4000000) (disch := omega) only [Zq, evO, vbox, wr, Zeq, if_true, if_false, Nat.reduceEqDiff, Nat.reduceAdd, Nat.reduceLeDiff, Nat.reduceSub, and_self, and_true, true_and, reduceIte, reduceCtorEq, eq_self, implies_true, forall_const, false_implies, imp_self, decide_true, decide_false]
  have nn10 : H9.nxt + 1 = H10.nxt := by rw [← hG10]; simp only [Zbh, Zbg]
  have n10 := k10.nxt
  have gb0_10 := (k10.get H.nxt (by omega)).trans gb0_9
  have gb1_10 := (k10.get (H.nxt + 1) (by omega)).trans gb1_9
  have gx4_10 := (k10.get H5.nxt (by omega)).trans gx4_9
  have gx6_10 := (k10.get H7.nxt (by omega)).trans gx6_9
  have k0_10 := k0_9.trans k10
  have or30_10 := (rLocking).ownKeep or30_9 k10
  have oy5_10 := (rPlant).ownKeep oy5_9 k10
  have oy7_10 := (rLocking).ownKeep oy7_9 k10
  try simp (maxSteps := 4000000) (disch := omega) only [Zq, evO, vbox, wr, Zeq, if_true, if_false, Nat.reduceEqDiff, Nat.reduceAdd, Nat.reduceLeDiff, Nat.reduceSub, and_self, and_true, true_and, reduceIte, reduceCtorEq, eq_self, implies_true, forall_const, false_implies, imp_self, decide_true, decide_false, vbinB_ne, gb0_10, gb1_10, gx4_10, gx6_10, gx8_10, t2, t3, t4, t8, t9, t38]
  first | refine G_fix [2, 3, 4, 8, 9, 10, 11, 43, 44, 45] ?_ | refine GO_fix [2, 3, 4, 8, 9, 10, 11, 43, 44, 45] ?_ | refine cK_fix [2, 3, 4, 8, 9, 10, 11, 43, 44, 45] ?_
  intro T hT
  simp only [fix_nil, fix_cons, Zq, evO, vbox, wr, Zeq, if_true, if_false, Nat.reduceEqDiff, Nat.reduceAdd, Nat.reduceLeDiff, Nat.reduceSub, and_self, and_true, true_and, reduceIte, reduceCtorEq, eq_self, implies_true, forall_const, false_implies, imp_self, decide_true, decide_false, t2, t3, t4, t8, t9, t38] at hT
  obtain ⟨t2, t3, t4, t8, t9, t10, t11, t43, t44, t45⟩ := hT
  refine GO_call_eq (by (simp (maxSteps := 4000000) (disch := omega) only [Zq, evO, vbox, wr, Zeq, if_true, if_false, Nat.reduceEqDiff, Nat.reduceAdd, Nat.reduceLeDiff, Nat.reduceSub, and_self, and_true, true_and, reduceIte, reduceCtorEq, eq_self, implies_true, forall_const, false_implies, imp_self, decide_true, decide_false, t2, t3, t4, t8, t9, t10, t11, t43, t44, t45]) <;> rfl) ((op_law r_impl_Request ((rPlant).ownrd oy5_10) ((rLocking).ownrd oy7_10) ht0 ht1).mono ?_)
  rintro _ H11 ⟨k11, csr90, Fr90, rfl, or90_11, fr90⟩
  have n11 := k11.nxt
  have gb0_11 := (k11.get H.nxt (by omega)).trans gb0_10
  have gb1_11 := (k11.get (H.nxt + 1) (by omega)).trans gb1_10
  have gx4_11 := (k11.get H5.nxt (by omega)).trans gx4_10
  have gx6_11 := (k11.get H7.nxt (by omega)).trans gx6_10
  have gx8_11 := (k11.get H9.nxt (by omega)).trans gx8_10
  have k0_11 := k0_10.trans k11
  have or30_11 := (rLocking).ownKeep or30_10 k11
  have oy5_11 := (rPlant).ownKeep oy5_10 k11
  have oy7_11 := (rLocking).ownKeep oy7_10 k11
  obtain ⟨vr90_0, vr90_1, vr90_2, rfl, _⟩ := locking_rd (x0 := (((opR rqR a0 a1 a2)).1).1) (x1 := (((opR rqR a0 a1 a2)).1).2.1) (x2 := (((opR rqR a0 a1 a2)).1).2.2) ((rLocking).ownrd or90_11)
  simp only [locking_val]
  simp (maxSteps := 4000000) (disch := omega) only [Zq, evO, vbox, wr, Zeq, if_true, if_false, Nat.reduceEqDiff, Nat.reduceAdd, Nat.reduceLeDiff, Nat.reduceSub, and_self, and_true, true_and, reduceIte, reduceCtorEq, eq_self, implies_true, forall_const, false_implies, imp_self, decide_true, decide_false, vbinB_ne, gb0_11, gb1_11, gx4_11, gx6_11, gx8_11, t2, t3, t4, t8, t9, t10, t11, t43, t44, t45]
  generalize hG12 : ((H11.push [.slice none 0 0, .slice none 0 0, .slice none 0 0]).set H11.nxt [vr90_0, vr90_1, vr90_2]) = H12
  have k12 : Keep H11 H12 := by rw [← hG12]; repeat' (first | exact Keep.refl _ | assumption | refine Keep.push' ?_ | refine Keep.set' ?_ ?_ | refine Keep.moved' ?_ ?_ | omega)
  have gx10_12 : H12.get H11.nxt = some (.own [vr90_0, vr90_1, vr90_2]) := by rw [← hG12]; simp (maxSteps := 4000000) (disch := omega) only [Zq, evO, vbox, wr, Zeq, if_true, if_false, Nat.reduceEqDiff, Nat.reduceAdd, Nat.reduceLeDiff, Nat.reduceSub, and_self, and_true, true_and, reduceIte, reduceCtorEq, eq_self, implies_true, forall_const, false_implies, imp_self, decide_true, decide_false]
  have nn12 : H11.nxt + 1 = H12.nxt := by rw [← hG12]; simp only [Zbh, Zbg]
  have n12 := k12.nxt
  have gb0_12 := (k12.get H.nxt (by omega)).trans gb0_11
  have gb1_12 := (k12.get (H.nxt + 1) (by omega)).trans gb1_11
  have gx4_12 := (k12.get H5.nxt (by omega)).trans gx4_11
  have gx6_12 := (k12.get H7.nxt (by omega)).trans gx6_11
  have gx8_12 := (k12.get H9.nxt (by omega)).trans gx8_11
  have k0_12 := k0_11.trans k12
  have or30_12 := (rLocking).ownKeep or30_11 k12
  have oy5_12 := (rPlant).ownKeep oy5_11 k12
  have oy7_12 := (rLocking).ownKeep oy7_11 k12
  have or90_12 := (rLocking).ownKeep or90_11 k12
  try simp (maxSteps := 4000000) (disch := omega) only [Zq, evO, vbox, wr, Zeq, if_true, if_false, Nat.reduceEqDiff, Nat.reduceAdd, Nat.reduceLeDiff, Nat.reduceSub, and_self, and_true, true_and, reduceIte, reduceCtorEq, eq_self, implies_true, forall_const, false_implies, imp_self, decide_true, decide_false, vbinB_ne, gb0_12, gb1_12, gx4_12, gx6_12, gx8_12, gx10_12, t2, t3, t4, t8, t9, t10, t11, t43, t44, t45]
  first | refine G_fix [2, 3, 4, 8, 9, 10, 11, 12, 13, 49, 50] ?_ | refine GO_fix [2, 3, 4, 8, 9, 10, 11, 12, 13, 49, 50] ?_ | refine cK_fix [2, 3, 4, 8, 9, 10, 11, 12, 13, 49, 50] ?_
  intro T hT
  simp only [fix_nil, fix_cons, Zq, evO, vbox, wr, Zeq, if_true, if_false, Nat.reduceEqDiff, Nat.reduceAdd, Nat.reduceLeDiff, Nat.reduceSub, and_self, and_true, true_and, reduceIte, reduceCtorEq, eq_self, implies_true, forall_const, false_implies, imp_self, decide_true, decide_false, t2, t3, t4, t8, t9, t10, t11, t43, t44, t45] at hT
  obtain ⟨t2, t3, t4, t8, t9, t10, t11, t12, t13, t49, t50⟩ := hT
  refine GO_call_eq (by (simp (maxSteps := 4000000) (disch := omega) only [Zq, evO, vbox, wr, Zeq, if_true, if_false, Nat.reduceEqDiff, Nat.reduceAdd, Nat.reduceLeDiff, Nat.reduceSub, and_self, and_true, true_and, reduceIte, reduceCtorEq, eq_self, implies_true, forall_const, false_implies, imp_self, decide_true, decide_false, t2, t3, t4, t8, t9, t10, t11, t12, t13, t49, t50]) <;> rfl) ((eqLocking_is H12 [vr90_0, vr90_1, vr90_2] [vr30_0, vr30_1, vr30_2] (((opR rqR a0 a1 a2)).1) ((rLocking).ownrd or90_12) ((rLocking).ownrd or30_12) (by omega)).mono ?_)
  rintro _ H13 ⟨k13, rfl⟩
  have n13 := k13.nxt
  have gb0_13 := (k13.get H.nxt (by omega)).trans gb0_12
  have gb1_13 := (k13.get (H.nxt + 1) (by omega)).trans gb1_12
  have gx4_13 := (k13.get H5.nxt (by omega)).trans gx4_12
  have gx6_13 := (k13.get H7.nxt (by omega)).trans gx6_12
  have gx8_13 := (k13.get H9.nxt (by omega)).trans gx8_12
  have gx10_13 := (k13.get H11.nxt (by omega)).trans gx10_12
  have k0_13 := k0_12.trans k13
  have or30_13 := (rLocking).ownKeep or30_12 k13
  have oy5_13 := (rPlant).ownKeep oy5_12 k13
  have oy7_13 := (rLocking).ownKeep oy7_12 k13
  have or90_13 := (rLocking).ownKeep or90_12 k13
  simp (maxSteps := 4000000) (disch := omega) only [Zq, evO, vbox, wr, Zeq, if_true, if_false, Nat.reduceEqDiff, Nat.reduceAdd, Nat.reduceLeDiff, Nat.reduceSub, and_self, and_true, true_and, reduceIte, reduceCtorEq, eq_self, implies_true, forall_const, false_implies, imp_self, decide_true, decide_false, vbinB_ne, gb0_13, gb1_13, gx4_13, gx6_13, gx8_13, gx10_13, t2, t3, t4, t8, t9, t10, t11, t12, t13, t49, t50]
  first | refine G_fix [2, 3, 4, 8, 9, 10, 11, 12, 13] ?_ | refine GO_fix [2, 3, 4, 8, 9, 10, 11, 12, 13] ?_ | refine cK_fix [2, 3, 4, 8, 9, 10, 11, 12, 13] ?_
  intro T hT
  simp only [fix_nil, fix_cons, Zq, evO, vbox, wr, Zeq, if_true, if_false, Nat.reduceEqDiff, Nat.reduceAdd, Nat.reduceLeDiff, Nat.reduceSub, and_self, and_true, true_and, reduceIte, reduceCtorEq, eq_self, implies_true, forall_const, false_implies, imp_self, decide_true, decide_false, t2, t3, t4, t8, t9, t10, t11, t12, t13, t49, t50] at hT
  obtain ⟨t2, t3, t4, t8, t9, t10, t11, t12, t13⟩ := hT
  simp (maxSteps := 4000000) (disch := omega) only [ZD, Zio, Zip, pre_, beq_self_eq_true, Nat.reduceBEq, Zq, evO, vbox, wr, Zeq, if_true, if_false, Nat.reduceEqDiff, Nat.reduceAdd, Nat.reduceLeDiff, Nat.reduceSub, and_self, and_true, true_and, reduceIte, reduceCtorEq, eq_self, implies_true, forall_const, false_implies, imp_self, decide_true, decide_false, G_dreg, vbinB_ne, gb0_13, gb1_13, gx4_13, gx6_13, gx8_13, gx10_13, t2, t3, t4, t8, t9, t10, t11, t12, t13]
  refine GD_call_eq (by (simp (maxSteps := 4000000) (disch := omega) only [Zq, evO, vbox, wr, Zeq, if_true, if_false, Nat.reduceEqDiff, Nat.reduceAdd, Nat.reduceLeDiff, Nat.reduceSub, and_self, and_true, true_and, reduceIte, reduceCtorEq, eq_self, implies_true, forall_const, false_implies, imp_self, decide_true, decide_false, t2, t3, t4, t8, t9, t10, t11, t12, t13]) <;> rfl) ((toPlant_is H13 [v0_0, .int .i64 (a0).2.1, v0_2] a0 ((rPlant).rdk h0 k0_13) ht0).mono ?_)
  rintro _ H14 ⟨k14, csy11, Fy11, rfl, oy11_14, fy11⟩
  have n14 := k14.nxt
  have gb0_14 := (k14.get H.nxt (by omega)).trans gb0_13
  have gb1_14 := (k14.get (H.nxt + 1) (by omega)).trans gb1_13
  have gx4_14 := (k14.get H5.nxt (by omega)).trans gx4_13
  have gx6_14 := (k14.get H7.nxt (by omega)).trans gx6_13
  have gx8_14 := (k14.get H9.nxt (by omega)).trans gx8_13
  have gx10_14 := (k14.get H11.nxt (by omega)).trans gx10_13
  have k0_14 := k0_13.trans k14
  have or30_14 := (rLocking).ownKeep or30_13 k14
  have oy5_14 := (rPlant).ownKeep oy5_13 k14
  have oy7_14 := (rLocking).ownKeep oy7_13 k14
  have or90_14 := (rLocking).ownKeep or90_13 k14
  obtain ⟨vy11_0, vy11_2, rfl, _⟩ := plant_rd (x0 := (a0).1) (x1 := (a0).2.1) (x2 := (a0).2.2) ((rPlant).ownrd oy11_14)
  simp only [plant_val]
  simp (maxSteps := 4000000) (disch := omega) only [ZD, Zio, Zip, pre_, beq_self_eq_true, Nat.reduceBEq, Zq, evO, vbox, wr, Zeq, if_true, if_false, Nat.reduceEqDiff, Nat.reduceAdd, Nat.reduceLeDiff, Nat.reduceSub, and_self, and_true, true_and, reduceIte, reduceCtorEq, eq_self, implies_true, forall_const, false_implies, imp_self, decide_true, decide_false, vbinB_ne, gb0_14, gb0_13, gb1_14, gb1_13, gx4_14, gx4_13, gx6_14, gx6_13, gx8_14, gx8_13, gx10_14, gx10_13, t2, t3, t4, t8, t9, t10, t11, t12, t13]
  refine GD_call_eq (by (simp (maxSteps := 4000000) (disch := omega) only [Zq, evO, vbox, wr, Zeq, if_true, if_false, Nat.reduceEqDiff, Nat.reduceAdd, Nat.reduceLeDiff, Nat.reduceSub, and_self, and_true, true_and, reduceIte, reduceCtorEq, eq_self, implies_true, forall_const, false_implies, imp_self, decide_true, decide_false, t2, t3, t4, t8, t9, t10, t11, t12, t13]) <;> rfl) ((eqPlant_is H14 [vy5_0, .int .i64 (a0).2.1, vy5_2] [vy11_0, .int .i64 (a0).2.1, vy11_2] (a0) ((rPlant).ownrd oy5_14) ((rPlant).ownrd oy11_14) (by omega)).mono ?_)
  rintro _ H15 ⟨k15, rfl⟩
  have n15 := k15.nxt
  have gb0_15 := (k15.get H.nxt (by omega)).trans gb0_14
  have gb1_15 := (k15.get (H.nxt + 1) (by omega)).trans gb1_14
  have gx4_15 := (k15.get H5.nxt (by omega)).trans gx4_14
  have gx6_15 := (k15.get H7.nxt (by omega)).trans gx6_14
  have gx8_15 := (k15.get H9.nxt (by omega)).trans gx8_14
  have gx10_15 := (k15.get H11.nxt (by omega)).trans gx10_14
  have k0_15 := k0_14.trans k15
  have or30_15 := (rLocking).ownKeep or30_14 k15
  have oy5_15 := (rPlant).ownKeep oy5_14 k15
  have oy7_15 := (rLocking).ownKeep oy7_14 k15
  have or90_15 := (rLocking).ownKeep or90_14 k15
  have oy11_15 := (rPlant).ownKeep oy11_14 k15
  simp (maxSteps := 4000000) (disch := omega) only [ZD, Zio, Zip, pre_, beq_self_eq_true, Nat.reduceBEq, Zq, evO, vbox, wr, Zeq, if_true, if_false, Nat.reduceEqDiff, Nat.reduceAdd, Nat.reduceLeDiff, Nat.reduceSub, and_self, and_true, true_and, reduceIte, reduceCtorEq, eq_self, implies_true, forall_const, false_implies, imp_self, decide_true, decide_false, vbinB_ne, gb0_15, gb0_13, gb0_14, gb1_15, gb1_13, gb1_14, gx4_15, gx4_13, gx4_14, gx6_15, gx6_13, gx6_14, gx8_15, gx8_13, gx8_14, gx10_15, gx10_13, gx10_14, t2, t3, t4, t8, t9, t10, t11, t12, t13]
  first | with_reducible refine And.intro (by repeat' (first | exact trivial | apply And.intro | omega | exact k14.get _ (by omega) | exact k15.get _ (by omega) | (simp only [Zbi, push_get']; split <;> first | omega | rfl))) ?_ | skip
  try simp (maxSteps := 4000000) (disch := omega) only [Zq, evO, vbox, wr, Zeq, if_true, if_false, Nat.reduceEqDiff, Nat.reduceAdd, Nat.reduceLeDiff, Nat.reduceSub, and_self, and_true, true_and, reduceIte, reduceCtorEq, eq_self, implies_true, forall_const, false_implies, imp_self, decide_true, decide_false, vbinB_ne, gb0_15, gb1_15, gx4_15, gx6_15, gx8_15, gx10_15, t2, t3, t4, t8, t9, t10, t11, t12, t13]
  simp (maxSteps := 4000000) (disch := omega) only [ZD, Zio, Zip, pre_, beq_self_eq_true, Nat.reduceBEq, Zq, evO, vbox, wr, Zeq, if_true, if_false, Nat.reduceEqDiff, Nat.reduceAdd, Nat.reduceLeDiff, Nat.reduceSub, and_self, and_true, true_and, reduceIte, reduceCtorEq, eq_self, implies_true, forall_const, false_implies, imp_self, decide_true, decide_false, G_dreg, vbinB_ne, gb0_15, gb1_15, gx4_15, gx6_15, gx8_15, gx10_15, t2, t3, t4, t8, t9, t10, t11, t12, t13]
  refine GD_call_eq (by (simp (maxSteps := 4000000) (disch := omega) only [Zq, evO, vbox, wr, Zeq, if_true, if_false, Nat.reduceEqDiff, Nat.reduceAdd, Nat.reduceLeDiff, Nat.reduceSub, and_self, and_true, true_and, reduceIte, reduceCtorEq, eq_self, implies_true, forall_const, false_implies, imp_self, decide_true, decide_false, t2, t3, t4, t8, t9, t10, t11, t12, t13]) <;> rfl) ((toLocking_is H15 [v1_0, v1_1, v1_2] a1 ((rLocking).rdk h1 k0_15) ht1).mono ?_)
  rintro _ H16 ⟨k16, csy12, Fy12, rfl, oy12_16, fy12⟩
  have n16 := k16.nxt
  have gb0_16 := (k16.get H.nxt (by omega)).trans gb0_15
  have gb1_16 := (k16.get (H.nxt + 1) (by omega)).trans gb1_15
  have gx4_16 := (k16.get H5.nxt (by omega)).trans gx4_15
  have gx6_16 := (k16.get H7.nxt (by omega)).trans gx6_15
  have gx8_16 := (k16.get H9.nxt (by omega)).trans gx8_15
  have gx10_16 := (k16.get H11.nxt (by omega)).trans gx10_15
  have k0_16 := k0_15.trans k16
  have or30_16 := (rLocking).ownKeep or30_15 k16
  have oy5_16 := (rPlant).ownKeep oy5_15 k16
  have oy7_16 := (rLocking).ownKeep oy7_15 k16
  have or90_16 := (rLocking).ownKeep or90_15 k16
  obtain ⟨vy12_0, vy12_1, vy12_2, rfl, _⟩ := locking_rd (x0 := (a1).1) (x1 := (a1).2.1) (x2 := (a1).2.2) ((rLocking).ownrd oy12_16)
  simp only [locking_val]
  simp (maxSteps := 4000000) (disch := omega) only [ZD, Zio, Zip, pre_, beq_self_eq_true, Nat.reduceBEq, Zq, evO, vbox, wr, Zeq, if_true, if_false, Nat.reduceEqDiff, Nat.reduceAdd, Nat.reduceLeDiff, Nat.reduceSub, and_self, and_true, true_and, reduceIte, reduceCtorEq, eq_self, implies_true, forall_const, false_implies, imp_self, decide_true, decide_false, vbinB_ne, gb0_16, gb0_15, gb1_16, gb1_15, gx4_16, gx4_15, gx6_16, gx6_15, gx8_16, gx8_15, gx10_16, gx10_15, t2, t3, t4, t8, t9, t10, t11, t12, t13]
  refine GD_call_eq (by (simp (maxSteps := 4000000) (disch := omega) only [Zq, evO, vbox, wr, Zeq, if_true, if_false, Nat.reduceEqDiff, Nat.reduceAdd, Nat.reduceLeDiff, Nat.reduceSub, and_self, and_true, true_and, reduceIte, reduceCtorEq, eq_self, implies_true, forall_const, false_implies, imp_self, decide_true, decide_false, t2, t3, t4, t8, t9, t10, t11, t12, t13]) <;> rfl) ((eqLocking_is H16 [vy7_0, vy7_1, vy7_2] [vy12_0, vy12_1, vy12_2] (a1) ((rLocking).ownrd oy7_16) ((rLocking).ownrd oy12_16) (by omega)).mono ?_)
  rintro _ H17 ⟨k17, rfl⟩
  have n17 := k17.nxt
  have gb0_17 := (k17.get H.nxt (by omega)).trans gb0_16
  have gb1_17 := (k17.get (H.nxt + 1) (by omega)).trans gb1_16
  have gx4_17 := (k17.get H5.nxt (by omega)).trans gx4_16
  have gx6_17 := (k17.get H7.nxt (by omega)).trans gx6_16
  have gx8_17 := (k17.get H9.nxt (by omega)).trans gx8_16
  have gx10_17 := (k17.get H11.nxt (by omega)).trans gx10_16
  have k0_17 := k0_16.trans k17
  have or30_17 := (rLocking).ownKeep or30_16 k17
  have oy5_17 := (rPlant).ownKeep oy5_16 k17
  have oy7_17 := (rLocking).ownKeep oy7_16 k17
  have or90_17 := (rLocking).ownKeep or90_16 k17
  have oy12_17 := (rLocking).ownKeep oy12_16 k17
  simp (maxSteps := 4000000) (disch := omega) only [ZD, Zio, Zip, pre_, beq_self_eq_true, Nat.reduceBEq, Zq, evO, vbox, wr, Zeq, if_true, if_false, Nat.reduceEqDiff, Nat.reduceAdd, Nat.reduceLeDiff, Nat.reduceSub, and_self, and_true, true_and, reduceIte, reduceCtorEq, eq_self, implies_true, forall_const, false_implies, imp_self, decide_true, decide_false, vbinB_ne, gb0_17, gb0_15, gb0_16, gb1_17, gb1_15, gb1_16, gx4_17, gx4_15, gx4_16, gx6_17, gx6_15, gx6_16, gx8_17, gx8_15, gx8_16, gx10_17, gx10_15, gx10_16, t2, t3, t4, t8, t9, t10, t11, t12, t13]
  first | with_reducible refine And.intro (by repeat' (first | exact trivial | apply And.intro | omega | exact k16.get _ (by omega) | exact k17.get _ (by omega) | (simp only [Zbi, push_get']; split <;> first | omega | rfl))) ?_ | skip
  try simp (maxSteps := 4000000) (disch := omega) only [Zq, evO, vbox, wr, Zeq, if_true, if_false, Nat.reduceEqDiff, Nat.reduceAdd, Nat.reduceLeDiff, Nat.reduceSub, and_self, and_true, true_and, reduceIte, reduceCtorEq, eq_self, implies_true, forall_const, false_implies, imp_self, decide_true, decide_false, vbinB_ne, gb0_17, gb1_17, gx4_17, gx6_17, gx8_17, gx10_17, t2, t3, t4, t8, t9, t10, t11, t12, t13]
  first | refine G_fix [2, 3, 4, 8, 9, 11, 12, 13, 68, 69] ?_ | refine GO_fix [2, 3, 4, 8, 9, 11, 12, 13, 68, 69] ?_ | refine cK_fix [2, 3, 4, 8, 9, 11, 12, 13, 68, 69] ?_
  intro T hT
  simp only [fix_nil, fix_cons, Zq, evO, vbox, wr, Zeq, if_true, if_false, Nat.reduceEqDiff, Nat.reduceAdd, Nat.reduceLeDiff, Nat.reduceSub, and_self, and_true, true_and, reduceIte, reduceCtorEq, eq_self, implies_true, forall_const, false_implies, imp_self, decide_true, decide_false, t2, t3, t4, t8, t9, t10, t11, t12, t13] at hT
  obtain ⟨t2, t3, t4, t8, t9, t11, t12, t13, t68, t69⟩ := hT
  have hm18 := mar_Plant (a0) (1)
  refine GO_call_eq (by (simp (maxSteps := 4000000) (disch := omega) only [Zq, evO, vbox, wr, Zeq, if_true, if_false, Nat.reduceEqDiff, Nat.reduceAdd, Nat.reduceLeDiff, Nat.reduceSub, and_self, and_true, true_and, reduceIte, reduceCtorEq, eq_self, implies_true, forall_const, false_implies, imp_self, decide_true, decide_false, t2, t3, t4, t8, t9, t11, t12, t13, t68, t69]) <;> rfl) ((markPlant_is H17 [vy5_0, .int .i64 (a0).2.1, vy5_2] (a0) Fy5 (1) oy5_17 fy5.1 (by omega)).mono ?_)
  rintro _ H18 ⟨c18, oy5_18, rfl⟩
  have n18 := c18.nxt
  have gb0_18 := (c18.get H.nxt (by omega) (fun hm => by have := fy5.2 _ hm; omega)).trans gb0_17
  have gb1_18 := (c18.get (H.nxt + 1) (by omega) (fun hm => by have := fy5.2 _ hm; omega)).trans gb1_17
  have gx4_18 := (c18.get H5.nxt (by omega) (fun hm => by have := fy5.2 _ hm; omega)).trans gx4_17
  have gx6_18 := (c18.get H7.nxt (by omega) (fun hm => by have := fy5.2 _ hm; omega)).trans gx6_17
  have gx8_18 := (c18.get H9.nxt (by omega) (fun hm => by have := fy5.2 _ hm; omega)).trans gx8_17
  have gx10_18 := (c18.get H11.nxt (by omega) (fun hm => by have := fy5.2 _ hm; omega)).trans gx10_17
  have k0_18 := c18.keep k0_17 (fun i hi => by have := fy5.2 i hi; omega)
  have or30_18 := (rLocking).ownChg or30_17 c18 (fun i hi hm => by have := fr30.2 i hi; have := fy5.2 i hm; omega)
  have oy7_18 := (rLocking).ownChg oy7_17 c18 (fun i hi hm => by have := fy7.2 i hi; have := fy5.2 i hm; omega)
  have or90_18 := (rLocking).ownChg or90_17 c18 (fun i hi hm => by have := fr90.2 i hi; have := fy5.2 i hm; omega)
  simp (maxSteps := 4000000) (disch := omega) only [Zq, evO, vbox, wr, Zeq, if_true, if_false, Nat.reduceEqDiff, Nat.reduceAdd, Nat.reduceLeDiff, Nat.reduceSub, and_self, and_true, true_and, reduceIte, reduceCtorEq, eq_self, implies_true, forall_const, false_implies, imp_self, decide_true, decide_false, vbinB_ne, gb0_18, gb1_18, gx4_18, gx8_18, gx10_18, t2, t3, t4, t8, t9, t11, t12, t13, t68, t69]
  have hm19 := mar_Locking (a1) ((mPlant (a0) (1)).2)
  refine GO_call_eq (by (simp (maxSteps := 4000000) (disch := omega) only [Zq, evO, vbox, wr, Zeq, if_true, if_false, Nat.reduceEqDiff, Nat.reduceAdd, Nat.reduceLeDiff, Nat.reduceSub, and_self, and_true, true_and, reduceIte, reduceCtorEq, eq_self, implies_true, forall_const, false_implies, imp_self, decide_true, decide_false, t2, t3, t4, t8, t9, t11, t12, t13, t68, t69]) <;> rfl) ((markLocking_is H18 [vy7_0, vy7_1, vy7_2] (a1) Fy7 ((mPlant (a0) (1)).2) oy7_18 fy7.1 (by omega)).mono ?_)
  rintro _ H19 ⟨c19, oy7_19, rfl⟩
  have n19 := c19.nxt
  have gb0_19 := (c19.get H.nxt (by omega) (fun hm => by have := fy7.2 _ hm; omega)).trans gb0_18
  have gb1_19 := (c19.get (H.nxt + 1) (by omega) (fun hm => by have := fy7.2 _ hm; omega)).trans gb1_18
  have gx4_19 := (c19.get H5.nxt (by omega) (fun hm => by have := fy7.2 _ hm; omega)).trans gx4_18
  have gx8_19 := (c19.get H9.nxt (by omega) (fun hm => by have := fy7.2 _ hm; omega)).trans gx8_18
  have gx10_19 := (c19.get H11.nxt (by omega) (fun hm => by have := fy7.2 _ hm; omega)).trans gx10_18
  have k0_19 := c19.keep k0_18 (fun i hi => by have := fy7.2 i hi; omega)
  have or30_19 := (rLocking).ownChg or30_18 c19 (fun i hi hm => by have := fr30.2 i hi; have := fy7.2 i hm; omega)
  have or90_19 := (rLocking).ownChg or90_18 c19 (fun i hi hm => by have := fr90.2 i hi; have := fy7.2 i hm; omega)
  simp (maxSteps := 4000000) (disch := omega) only [Zq, evO, vbox, wr, Zeq, if_true, if_false, Nat.reduceEqDiff, Nat.reduceAdd, Nat.reduceLeDiff, Nat.reduceSub, and_self, and_true, true_and, reduceIte, reduceCtorEq, eq_self, implies_true, forall_const, false_implies, imp_self, decide_true, decide_false, vbinB_ne, gb0_19, gb1_19, gx4_19, gx10_19, t2, t3, t4, t8, t9, t11, t12, t13, t68, t69]
  first | refine G_fix [2, 3, 4, 8, 9, 12, 13, 76, 77, 78] ?_ | refine GO_fix [2, 3, 4, 8, 9, 12, 13, 76, 77, 78] ?_ | refine cK_fix [2, 3, 4, 8, 9, 12, 13, 76, 77, 78] ?_
  intro T hT
  simp only [fix_nil, fix_cons, Zq, evO, vbox, wr, Zeq, if_true, if_false, Nat.reduceEqDiff, Nat.reduceAdd, Nat.reduceLeDiff, Nat.reduceSub, and_self, and_true, true_and, reduceIte, reduceCtorEq, eq_self, implies_true, forall_const, false_implies, imp_self, decide_true, decide_false, t2, t3, t4, t8, t9, t11, t12, t13, t68, t69] at hT
  obtain ⟨t2, t3, t4, t8, t9, t12, t13, t76, t77, t78⟩ := hT
  refine GO_call_eq (by (simp (maxSteps := 4000000) (disch := omega) only [Zq, evO, vbox, wr, Zeq, if_true, if_false, Nat.reduceEqDiff, Nat.reduceAdd, Nat.reduceLeDiff, Nat.reduceSub, and_self, and_true, true_and, reduceIte, reduceCtorEq, eq_self, implies_true, forall_const, false_implies, imp_self, decide_true, decide_false, t2, t3, t4, t8, t9, t12, t13, t76, t77, t78]) <;> rfl) ((eqLocking_is H19 [vr90_0, vr90_1, vr90_2] [vr30_0, vr30_1, vr30_2] (((opR rqR a0 a1 a2)).1) ((rLocking).ownrd or90_19) ((rLocking).ownrd or30_19) (by omega)).mono ?_)
  rintro _ H20 ⟨k20, rfl⟩
  have n20 := k20.nxt
  have gb0_20 := (k20.get H.nxt (by omega)).trans gb0_19
  have gb1_20 := (k20.get (H.nxt + 1) (by omega)).trans gb1_19
  have gx4_20 := (k20.get H5.nxt (by omega)).trans gx4_19
  have gx10_20 := (k20.get H11.nxt (by omega)).trans gx10_19
  have k0_20 := k0_19.trans k20
  have or30_20 := (rLocking).ownKeep or30_19 k20
  have or90_20 := (rLocking).ownKeep or90_19 k20
  simp (maxSteps := 4000000) (disch := omega) only [Zq, evO, vbox, wr, Zeq, if_true, if_false, Nat.reduceEqDiff, Nat.reduceAdd, Nat.reduceLeDiff, Nat.reduceSub, and_self, and_true, true_and, reduceIte, reduceCtorEq, eq_self, implies_true, forall_const, false_implies, imp_self, decide_true, decide_false, vbinB_ne, gb0_20, gb1_20, gx4_20, gx10_20, t2, t3, t4, t8, t9, t12, t13, t76, t77, t78]
  first | refine G_fix [2, 3, 4, 8, 9, 12, 87, 88] ?_ | refine GO_fix [2, 3, 4, 8, 9, 12, 87, 88] ?_ | refine cK_fix [2, 3, 4, 8, 9, 12, 87, 88] ?_
  intro T hT
  simp only [fix_nil, fix_cons, Zq, evO, vbox, wr, Zeq, if_true, if_false, Nat.reduceEqDiff, Nat.reduceAdd, Nat.reduceLeDiff, Nat.reduceSub, and_self, and_true, true_and, reduceIte, reduceCtorEq, eq_self, implies_true, forall_const, false_implies, imp_self, decide_true, decide_false, t2, t3, t4, t8, t9, t12, t13, t76, t77, t78] at hT
  obtain ⟨t2, t3, t4, t8, t9, t12, t87, t88⟩ := hT
  have hm21 := mar_Locking (((opR rqR a0 a1 a2)).1) (1)
  refine GO_call_eq (by (simp (maxSteps := 4000000) (disch := omega) only [Zq, evO, vbox, wr, Zeq, if_true, if_false, Nat.reduceEqDiff, Nat.reduceAdd, Nat.reduceLeDiff, Nat.reduceSub, and_self, and_true, true_and, reduceIte, reduceCtorEq, eq_self, implies_true, forall_const, false_implies, imp_self, decide_true, decide_false, t2, t3, t4, t8, t9, t12, t87, t88]) <;> rfl) ((markLocking_is H20 [vr90_0, vr90_1, vr90_2] (((opR rqR a0 a1 a2)).1) Fr90 (1) or90_20 fr90.1 (by omega)).mono ?_)
  rintro _ H21 ⟨c21, or90_21, rfl⟩
  have n21 := c21.nxt
  have gb0_21 := (c21.get H.nxt (by omega) (fun hm => by have := fr90.2 _ hm; omega)).trans gb0_20
  have gb1_21 := (c21.get (H.nxt + 1) (by omega) (fun hm => by have := fr90.2 _ hm; omega)).trans gb1_20
  have gx4_21 := (c21.get H5.nxt (by omega) (fun hm => by have := fr90.2 _ hm; omega)).trans gx4_20
  have gx10_21 := (c21.get H11.nxt (by omega) (fun hm => by have := fr90.2 _ hm; omega)).trans gx10_20
  have k0_21 := c21.keep k0_20 (fun i hi => by have := fr90.2 i hi; omega)
  have or30_21 := (rLocking).ownChg or30_20 c21 (fun i hi hm => by have := fr30.2 i hi; have := fr90.2 i hm; omega)
  simp (maxSteps := 4000000) (disch := omega) only [Zq, evO, vbox, wr, Zeq, if_true, if_false, Nat.reduceEqDiff, Nat.reduceAdd, Nat.reduceLeDiff, Nat.reduceSub, and_self, and_true, true_and, reduceIte, reduceCtorEq, eq_self, implies_true, forall_const, false_implies, imp_self, decide_true, decide_false, vbinB_ne, gb0_21, gb1_21, gx4_21, gx10_21, t2, t3, t4, t8, t9, t12, t87, t88]
  refine GO_call_eq (by (simp (maxSteps := 4000000) (disch := omega) only [Zq, evO, vbox, wr, Zeq, if_true, if_false, Nat.reduceEqDiff, Nat.reduceAdd, Nat.reduceLeDiff, Nat.reduceSub, and_self, and_true, true_and, reduceIte, reduceCtorEq, eq_self, implies_true, forall_const, false_implies, imp_self, decide_true, decide_false, t2, t3, t4, t8, t9, t12, t87, t88]) <;> rfl) ((heldLocking_is H21 [vr90_0, vr90_1, vr90_2] (((opR rqR a0 a1 a2)).1) (1) ((rLocking).ownrd or90_21) (by omega)).mono ?_)
  rintro _ H22 ⟨k22, rfl⟩
  have n22 := k22.nxt
  have gb0_22 := (k22.get H.nxt (by omega)).trans gb0_21
  have gb1_22 := (k22.get (H.nxt + 1) (by omega)).trans gb1_21
  have gx4_22 := (k22.get H5.nxt (by omega)).trans gx4_21
  have gx10_22 := (k22.get H11.nxt (by omega)).trans gx10_21
  have k0_22 := k0_21.trans k22
  have or30_22 := (rLocking).ownKeep or30_21 k22
  have or90_22 := (rLocking).ownKeep or90_21 k22
  simp (maxSteps := 4000000) (disch := omega) only [Zq, evO, vbox, wr, Zeq, if_true, if_false, Nat.reduceEqDiff, Nat.reduceAdd, Nat.reduceLeDiff, Nat.reduceSub, and_self, and_true, true_and, reduceIte, reduceCtorEq, eq_self, implies_true, forall_const, false_implies, imp_self, decide_true, decide_false, vbinB_ne, gb0_22, gb1_22, gx4_22, gx10_22, t2, t3, t4, t8, t9, t12, t87, t88]
  first | refine G_fix [2, 3, 4, 8, 9, 12, 15] ?_ | refine GO_fix [2, 3, 4, 8, 9, 12, 15] ?_ | refine cK_fix [2, 3, 4, 8, 9, 12, 15] ?_
  intro T hT
  simp only [fix_nil, fix_cons, Zq, evO, vbox, wr, Zeq, if_true, if_false, Nat.reduceEqDiff, Nat.reduceAdd, Nat.reduceLeDiff, Nat.reduceSub, and_self, and_true, true_and, reduceIte, reduceCtorEq, eq_self, implies_true, forall_const, false_implies, imp_self, decide_true, decide_false, t2, t3, t4, t8, t9, t12, t87, t88] at hT
  obtain ⟨t2, t3, t4, t8, t9, t12, t15⟩ := hT
  simp (maxSteps := 4000000) (disch := omega) only [ZD, Zio, Zip, pre_, beq_self_eq_true, Nat.reduceBEq, Zq, evO, vbox, wr, Zeq, if_true, if_false, Nat.reduceEqDiff, Nat.reduceAdd, Nat.reduceLeDiff, Nat.reduceSub, and_self, and_true, true_and, reduceIte, reduceCtorEq, eq_self, implies_true, forall_const, false_implies, imp_self, decide_true, decide_false, G_dreg, vbinB_ne, gb0_22, gb1_22, gx4_22, gx10_22, t2, t3, t4, t8, t9, t12, t15]
  refine GD_call_eq (by (simp (maxSteps := 4000000) (disch := omega) only [Zq, evO, vbox, wr, Zeq, if_true, if_false, Nat.reduceEqDiff, Nat.reduceAdd, Nat.reduceLeDiff, Nat.reduceSub, and_self, and_true, true_and, reduceIte, reduceCtorEq, eq_self, implies_true, forall_const, false_implies, imp_self, decide_true, decide_false, t2, t3, t4, t8, t9, t12, t15]) <;> rfl) ((toPlant_is H22 [v0_0, .int .i64 (a0).2.1, v0_2] a0 ((rPlant).rdk h0 k0_22) ht0).mono ?_)
  rintro _ H23 ⟨k23, csy13, Fy13, rfl, oy13_23, fy13⟩
  have n23 := k23.nxt
  have gb0_23 := (k23.get H.nxt (by omega)).trans gb0_22
  have gb1_23 := (k23.get (H.nxt + 1) (by omega)).trans gb1_22
  have gx4_23 := (k23.get H5.nxt (by omega)).trans gx4_22
  have gx10_23 := (k23.get H11.nxt (by omega)).trans gx10_22
  have k0_23 := k0_22.trans k23
  have or30_23 := (rLocking).ownKeep or30_22 k23
  have or90_23 := (rLocking).ownKeep or90_22 k23
  obtain ⟨vy13_0, vy13_2, rfl, _⟩ := plant_rd (x0 := (a0).1) (x1 := (a0).2.1) (x2 := (a0).2.2) ((rPlant).ownrd oy13_23)
  simp only [plant_val]
  simp (maxSteps := 4000000) (disch := omega) only [ZD, Zio, Zip, pre_, beq_self_eq_true, Nat.reduceBEq, Zq, evO, vbox, wr, Zeq, if_true, if_false, Nat.reduceEqDiff, Nat.reduceAdd, Nat.reduceLeDiff, Nat.reduceSub, and_self, and_true, true_and, reduceIte, reduceCtorEq, eq_self, implies_true, forall_const, false_implies, imp_self, decide_true, decide_false, vbinB_ne, gb0_23, gb0_22, gb1_23, gb1_22, gx4_23, gx4_22, gx10_23, gx10_22, t2, t3, t4, t8, t9, t12, t15]
  refine GD_call_eq (by (simp (maxSteps := 4000000) (disch := omega) only [Zq, evO, vbox, wr, Zeq, if_true, if_false, Nat.reduceEqDiff, Nat.reduceAdd, Nat.reduceLeDiff, Nat.reduceSub, and_self, and_true, true_and, reduceIte, reduceCtorEq, eq_self, implies_true, forall_const, false_implies, imp_self, decide_true, decide_false, t2, t3, t4, t8, t9, t12, t15]) <;> rfl) ((toLocking_is H23 [v1_0, v1_1, v1_2] a1 ((rLocking).rdk h1 k0_23) ht1).mono ?_)
  rintro _ H24 ⟨k24, csy14, Fy14, rfl, oy14_24, fy14⟩
  have n24 := k24.nxt
  have gb0_24 := (k24.get H.nxt (by omega)).trans gb0_23
  have gb1_24 := (k24.get (H.nxt + 1) (by omega)).trans gb1_23
  have gx4_24 := (k24.get H5.nxt (by omega)).trans gx4_23
  have gx10_24 := (k24.get H11.nxt (by omega)).trans gx10_23
  have k0_24 := k0_23.trans k24
  have or30_24 := (rLocking).ownKeep or30_23 k24
  have or90_24 := (rLocking).ownKeep or90_23 k24
  have oy13_24 := (rPlant).ownKeep oy13_23 k24
  obtain ⟨vy14_0, vy14_1, vy14_2, rfl, _⟩ := locking_rd (x0 := (a1).1) (x1 := (a1).2.1) (x2 := (a1).2.2) ((rLocking).ownrd oy14_24)
  simp only [locking_val]
  simp (maxSteps := 4000000) (disch := omega) only [ZD, Zio, Zip, pre_, beq_self_eq_true, Nat.reduceBEq, Zq, evO, vbox, wr, Zeq, if_true, if_false, Nat.reduceEqDiff, Nat.reduceAdd, Nat.reduceLeDiff, Nat.reduceSub, and_self, and_true, true_and, reduceIte, reduceCtorEq, eq_self, implies_true, forall_const, false_implies, imp_self, decide_true, decide_false, vbinB_ne, gb0_24, gb0_22, gb0_23, gb1_24, gb1_22, gb1_23, gx4_24, gx4_22, gx4_23, gx10_24, gx10_22, gx10_23, t2, t3, t4, t8, t9, t12, t15]
  refine GD_call_eq (by (simp (maxSteps := 4000000) (disch := omega) only [Zq, evO, vbox, wr, Zeq, if_true, if_false, Nat.reduceEqDiff, Nat.reduceAdd, Nat.reduceLeDiff, Nat.reduceSub, and_self, and_true, true_and, reduceIte, reduceCtorEq, eq_self, implies_true, forall_const, false_implies, imp_self, decide_true, decide_false, t2, t3, t4, t8, t9, t12, t15]) <;> rfl) ((op_law r_impl_Request ((rPlant).ownrd oy13_24) ((rLocking).ownrd oy14_24) ht0 ht1).mono ?_)
  rintro _ H25 ⟨k25, csr150, Fr150, rfl, or150_25, fr150⟩
  have n25 := k25.nxt
  have gb0_25 := (k25.get H.nxt (by omega)).trans gb0_24
  have gb1_25 := (k25.get (H.nxt + 1) (by omega)).trans gb1_24
  have gx4_25 := (k25.get H5.nxt (by omega)).trans gx4_24
  have gx10_25 := (k25.get H11.nxt (by omega)).trans gx10_24
  have k0_25 := k0_24.trans k25
  have or30_25 := (rLocking).ownKeep or30_24 k25
  have or90_25 := (rLocking).ownKeep or90_24 k25
  have oy13_25 := (rPlant).ownKeep oy13_24 k25
  have oy14_25 := (rLocking).ownKeep oy14_24 k25
  obtain ⟨vr150_0, vr150_1, vr150_2, rfl, _⟩ := locking_rd (x0 := (((opR rqR a0 a1 a2)).1).1) (x1 := (((opR rqR a0 a1 a2)).1).2.1) (x2 := (((opR rqR a0 a1 a2)).1).2.2) ((rLocking).ownrd or150_25)
  simp only [locking_val]
  simp (maxSteps := 4000000) (disch := omega) only [ZD, Zio, Zip, pre_, beq_self_eq_true, Nat.reduceBEq, Zq, evO, vbox, wr, Zeq, if_true, if_false, Nat.reduceEqDiff, Nat.reduceAdd, Nat.reduceLeDiff, Nat.reduceSub, and_self, and_true, true_and, reduceIte, reduceCtorEq, eq_self, implies_true, forall_const, false_implies, imp_self, decide_true, decide_false, vbinB_ne, gb0_25, gb0_22, gb0_23, gb0_24, gb1_25, gb1_22, gb1_23, gb1_24, gx4_25, gx4_22, gx4_23, gx4_24, gx10_25, gx10_22, gx10_23, gx10_24, t2, t3, t4, t8, t9, t12, t15]
  generalize hG26 : ((H25.push [.slice none 0 0, .slice none 0 0, .slice none 0 0]).set H25.nxt [vr150_0, vr150_1, vr150_2]) = H26
  have k26 : Keep H25 H26 := by rw [← hG26]; repeat' (first | exact Keep.refl _ | assumption | refine Keep.push' ?_ | refine Keep.set' ?_ ?_ | refine Keep.moved' ?_ ?_ | omega)
  have gx16_26 : H26.get H25.nxt = some (.own [vr150_0, vr150_1, vr150_2]) := by rw [← hG26]; simp (maxSteps := 4000000) (disch := omega) only [Zq, evO, vbox, wr, Zeq, if_true, if_false, Nat.reduceEqDiff, Nat.reduceAdd, Nat.reduceLeDiff, Nat.reduceSub, and_self, and_true, true_and, reduceIte, reduceCtorEq, eq_self, implies_true, forall_const, false_implies, imp_self, decide_true, decide_false]
  have nn26 : H25.nxt + 1 = H26.nxt := by rw [← hG26]; simp only [Zbh, Zbg]
  have n26 := k26.nxt
  have gb0_26 := (k26.get H.nxt (by omega)).trans gb0_25
  have gb1_26 := (k26.get (H.nxt + 1) (by omega)).trans gb1_25
  have gx4_26 := (k26.get H5.nxt (by omega)).trans gx4_25
  have gx10_26 := (k26.get H11.nxt (by omega)).trans gx10_25
  have k0_26 := k0_25.trans k26
  have or30_26 := (rLocking).ownKeep or30_25 k26
  have or90_26 := (rLocking).ownKeep or90_25 k26
  have or150_26 := (rLocking).ownKeep or150_25 k26
  try simp (maxSteps := 4000000) (disch := omega) only [ZD, Zio, Zip, pre_, beq_self_eq_true, Nat.reduceBEq, Zq, evO, vbox, wr, Zeq, if_true, if_false, Nat.reduceEqDiff, Nat.reduceAdd, Nat.reduceLeDiff, Nat.reduceSub, and_self, and_true, true_and, reduceIte, reduceCtorEq, eq_self, implies_true, forall_const, false_implies, imp_self, decide_true, decide_false, vbinB_ne, gb0_26, gb0_22, gb0_23, gb0_24, gb0_25, gb1_26, gb1_22, gb1_23, gb1_24, gb1_25, gx4_26, gx4_22, gx4_23, gx4_24, gx4_25, gx10_26, gx10_22, gx10_23, gx10_24, gx10_25, gx16_26, t2, t3, t4, t8, t9, t12, t15]
  first | with_reducible refine And.intro (by repeat' (first | exact trivial | apply And.intro | omega | exact k23.get _ (by omega) | exact k24.get _ (by omega) | exact k25.get _ (by omega) | exact k26.get _ (by omega) | (simp only [Zbi, push_get']; split <;> first | omega | rfl))) ?_ | skip
  try simp (maxSteps := 4000000) (disch := omega) only [Zq, evO, vbox, wr, Zeq, if_true, if_false, Nat.reduceEqDiff, Nat.reduceAdd, Nat.reduceLeDiff, Nat.reduceSub, and_self, and_true, true_and, reduceIte, reduceCtorEq, eq_self, implies_true, forall_const, false_implies, imp_self, decide_true, decide_false, vbinB_ne, gb0_26, gb1_26, gx4_26, gx10_26, gx16_26, t2, t3, t4, t8, t9, t12, t15]
  first | refine G_fix [9, 12, 15, 18, 107, 108] ?_ | refine GO_fix [9, 12, 15, 18, 107, 108] ?_ | refine cK_fix [9, 12, 15, 18, 107, 108] ?_
  intro T hT
  simp only [fix_nil, fix_cons, Zq, evO, vbox, wr, Zeq, if_true, if_false, Nat.reduceEqDiff, Nat.reduceAdd, Nat.reduceLeDiff, Nat.reduceSub, and_self, and_true, true_and, reduceIte, reduceCtorEq, eq_self, implies_true, forall_const, false_implies, imp_self, decide_true, decide_false, t2, t3, t4, t8, t9, t12, t15] at hT
  obtain ⟨t9, t12, t15, t18, t107, t108⟩ := hT
  refine GO_call_eq (by (simp (maxSteps := 4000000) (disch := omega) only [Zq, evO, vbox, wr, Zeq, if_true, if_false, Nat.reduceEqDiff, Nat.reduceAdd, Nat.reduceLeDiff, Nat.reduceSub, and_self, and_true, true_and, reduceIte, reduceCtorEq, eq_self, implies_true, forall_const, false_implies, imp_self, decide_true, decide_false, t9, t12, t15, t18, t107, t108]) <;> rfl) ((eqLocking_is H26 [vr150_0, vr150_1, vr150_2] [vr30_0, vr30_1, vr30_2] (((opR rqR a0 a1 a2)).1) ((rLocking).ownrd or150_26) ((rLocking).ownrd or30_26) (by omega)).mono ?_)
  rintro _ H27 ⟨k27, rfl⟩
  have n27 := k27.nxt
  have gb0_27 := (k27.get H.nxt (by omega)).trans gb0_26
  have gb1_27 := (k27.get (H.nxt + 1) (by omega)).trans gb1_26
  have gx4_27 := (k27.get H5.nxt (by omega)).trans gx4_26
  have gx10_27 := (k27.get H11.nxt (by omega)).trans gx10_26
  have gx16_27 := (k27.get H25.nxt (by omega)).trans gx16_26
  have k0_27 := k0_26.trans k27
  have or30_27 := (rLocking).ownKeep or30_26 k27
  have or90_27 := (rLocking).ownKeep or90_26 k27
  have or150_27 := (rLocking).ownKeep or150_26 k27
  simp (maxSteps := 4000000) (disch := omega) only [Zq, evO, vbox, wr, Zeq, if_true, if_false, Nat.reduceEqDiff, Nat.reduceAdd, Nat.reduceLeDiff, Nat.reduceSub, and_self, and_true, true_and, reduceIte, reduceCtorEq, eq_self, implies_true, forall_const, false_implies, imp_self, decide_true, decide_false, vbinB_ne, gb0_27, gb1_27, gx4_27, gx10_27, gx16_27, t9, t12, t15, t18, t107, t108]
  first | refine G_fix [15, 116, 117] ?_ | refine GO_fix [15, 116, 117] ?_ | refine cK_fix [15, 116, 117] ?_
  intro T hT
  simp only [fix_nil, fix_cons, Zq, evO, vbox, wr, Zeq, if_true, if_false, Nat.reduceEqDiff, Nat.reduceAdd, Nat.reduceLeDiff, Nat.reduceSub, and_self, and_true, true_and, reduceIte, reduceCtorEq, eq_self, implies_true, forall_const, false_implies, imp_self, decide_true, decide_false, t9, t12, t15, t18, t107, t108] at hT
  obtain ⟨t15, t116, t117⟩ := hT
  refine GO_call_eq (by (simp (maxSteps := 4000000) (disch := omega) only [Zq, evO, vbox, wr, Zeq, if_true, if_false, Nat.reduceEqDiff, Nat.reduceAdd, Nat.reduceLeDiff, Nat.reduceSub, and_self, and_true, true_and, reduceIte, reduceCtorEq, eq_self, implies_true, forall_const, false_implies, imp_self, decide_true, decide_false, t15, t116, t117]) <;> rfl) ((heldLocking_is H27 [vr90_0, vr90_1, vr90_2] (((opR rqR a0 a1 a2)).1) (1) ((rLocking).ownrd or90_27) (by omega)).mono ?_)
  rintro _ H28 ⟨k28, rfl⟩
  have n28 := k28.nxt
  have gb0_28 := (k28.get H.nxt (by omega)).trans gb0_27
  have gb1_28 := (k28.get (H.nxt + 1) (by omega)).trans gb1_27
  have gx4_28 := (k28.get H5.nxt (by omega)).trans gx4_27
  have gx10_28 := (k28.get H11.nxt (by omega)).trans gx10_27
  have gx16_28 := (k28.get H25.nxt (by omega)).trans gx16_27
  have k0_28 := k0_27.trans k28
  have or30_28 := (rLocking).ownKeep or30_27 k28
  have or90_28 := (rLocking).ownKeep or90_27 k28
  have or150_28 := (rLocking).ownKeep or150_27 k28
  simp (maxSteps := 4000000) (disch := omega) only [Zq, evO, vbox, wr, Zeq, if_true, if_false, Nat.reduceEqDiff, Nat.reduceAdd, Nat.reduceLeDiff, Nat.reduceSub, and_self, and_true, true_and, reduceIte, reduceCtorEq, eq_self, implies_true, forall_const, false_implies, imp_self, decide_true, decide_false, vbinB_ne, gb0_28, gb1_28, gx4_28, gx10_28, gx16_28, t15, t116, t117]
theorem good_Int {H : Heap} {n : Nat} {xs : List Value} (h : Good Try.prog H n 3 xs) : ∃ a, (rInt).rd H xs a ∧ (rInt).fit a := by
  obtain ⟨z, rfl, _⟩ := good_int (k := .i64) (by kernel_rfl) h
  exact ⟨z, rfl, trivial⟩
theorem good_IntS {H : Heap} {n : Nat} {xs : List Value} (h : Good Try.prog H n 24 xs) : ∃ a, ((rSlc rInt)).rd H xs a ∧ ((rSlc rInt)).fit a :=
  good_slcs (e := 3) (c := 1) (by kernel_rfl) (by kernel_rfl) (fun m row _ hg => good_Int hg) rfl h
theorem good_Need {H : Heap} {n : Nat} {xs : List Value} (h : Good Try.prog H n 112 xs) : ∃ a, (rNeed).rd H xs a ∧ (rNeed).fit a := by
  have hl := good_cells (c := 2) (by kernel_rfl) (by kernel_rfl) h
  obtain ⟨c0, c1, rfl⟩ : ∃ c0 c1, xs = [c0, c1] := by
    match xs, hl with
    | [c0, c1], _ => exact ⟨c0, c1, rfl⟩
  obtain ⟨_, f0⟩ := good_field (i := 0) (t' := 3) (o := 0) (c := 1) (by kernel_rfl) h
  obtain ⟨y0, r0, t0⟩ := good_Int f0
  obtain ⟨_, f1⟩ := good_field (i := 1) (t' := 3) (o := 1) (c := 1) (by kernel_rfl) h
  obtain ⟨y1, r1, t1⟩ := good_Int f1
  have e0 : c0 = .int .i64 y0 := by have := r0; simpa [leafRep] using this
  subst e0
  have e1 : c1 = .int .i64 y1 := by have := r1; simpa [leafRep] using this
  subst e1
  exact ⟨(y0, y1), rfl, trivial⟩
theorem good_NeedS {H : Heap} {n : Nat} {xs : List Value} (h : Good Try.prog H n 101 xs) : ∃ a, ((rSlc rNeed)).rd H xs a ∧ ((rSlc rNeed)).fit a :=
  good_slcs (e := 112) (c := 2) (by kernel_rfl) (by kernel_rfl) (fun m row _ hg => good_Need hg) rfl h
theorem good_Route {H : Heap} {n : Nat} {xs : List Value} (h : Good Try.prog H n 103 xs) : ∃ a, (rRoute).rd H xs a ∧ (rRoute).fit a := by
  have hl := good_cells (c := 2) (by kernel_rfl) (by kernel_rfl) h
  obtain ⟨c0, c1, rfl⟩ : ∃ c0 c1, xs = [c0, c1] := by
    match xs, hl with
    | [c0, c1], _ => exact ⟨c0, c1, rfl⟩
  obtain ⟨_, f0⟩ := good_field (i := 0) (t' := 101) (o := 0) (c := 1) (by kernel_rfl) h
  obtain ⟨y0, r0, t0⟩ := good_NeedS f0
  obtain ⟨_, f1⟩ := good_field (i := 1) (t' := 24) (o := 1) (c := 1) (by kernel_rfl) h
  obtain ⟨y1, r1, t1⟩ := good_IntS f1
  exact ⟨(y0, y1), ⟨[c0], _, rfl, r0, r1⟩, t0, t1⟩
theorem good_RouteS {H : Heap} {n : Nat} {xs : List Value} (h : Good Try.prog H n 49 xs) : ∃ a, ((rSlc rRoute)).rd H xs a ∧ ((rSlc rRoute)).fit a :=
  good_slcs (e := 103) (c := 2) (by kernel_rfl) (by kernel_rfl) (fun m row _ hg => good_Route hg) rfl h
theorem good_Plant {H : Heap} {n : Nat} {xs : List Value} (h : Good Try.prog H n 51 xs) : ∃ a, (rPlant).rd H xs a ∧ (rPlant).fit a := by
  have hl := good_cells (c := 3) (by kernel_rfl) (by kernel_rfl) h
  obtain ⟨c0, c1, c2, rfl⟩ : ∃ c0 c1 c2, xs = [c0, c1, c2] := by
    match xs, hl with
    | [c0, c1, c2], _ => exact ⟨c0, c1, c2, rfl⟩
  obtain ⟨_, f0⟩ := good_field (i := 0) (t' := 24) (o := 0) (c := 1) (by kernel_rfl) h
  obtain ⟨y0, r0, t0⟩ := good_IntS f0
  obtain ⟨_, f1⟩ := good_field (i := 1) (t' := 3) (o := 1) (c := 1) (by kernel_rfl) h
  obtain ⟨y1, r1, t1⟩ := good_Int f1
  obtain ⟨_, f2⟩ := good_field (i := 2) (t' := 49) (o := 2) (c := 1) (by kernel_rfl) h
  obtain ⟨y2, r2, t2⟩ := good_RouteS f2
  exact ⟨(y0, y1, y2), ⟨[c0], _, rfl, r0, ⟨[c1], _, rfl, r1, r2⟩⟩, t0, t1, t2⟩
theorem good_Bool {H : Heap} {n : Nat} {xs : List Value} (h : Good Try.prog H n 4 xs) : ∃ a, (rBool).rd H xs a ∧ (rBool).fit a := by
  obtain ⟨z, rfl⟩ := good_bool (by kernel_rfl) h
  exact ⟨z, rfl, trivial⟩
theorem good_BoolS {H : Heap} {n : Nat} {xs : List Value} (h : Good Try.prog H n 31 xs) : ∃ a, ((rSlc rBool)).rd H xs a ∧ ((rSlc rBool)).fit a :=
  good_slcs (e := 4) (c := 1) (by kernel_rfl) (by kernel_rfl) (fun m row _ hg => good_Bool hg) rfl h
theorem good_Locking {H : Heap} {n : Nat} {xs : List Value} (h : Good Try.prog H n 52 xs) : ∃ a, (rLocking).rd H xs a ∧ (rLocking).fit a := by
  have hl := good_cells (c := 3) (by kernel_rfl) (by kernel_rfl) h
  obtain ⟨c0, c1, c2, rfl⟩ : ∃ c0 c1 c2, xs = [c0, c1, c2] := by
    match xs, hl with
    | [c0, c1, c2], _ => exact ⟨c0, c1, c2, rfl⟩
  obtain ⟨_, f0⟩ := good_field (i := 0) (t' := 24) (o := 0) (c := 1) (by kernel_rfl) h
  obtain ⟨y0, r0, t0⟩ := good_IntS f0
  obtain ⟨_, f1⟩ := good_field (i := 1) (t' := 31) (o := 1) (c := 1) (by kernel_rfl) h
  obtain ⟨y1, r1, t1⟩ := good_BoolS f1
  obtain ⟨_, f2⟩ := good_field (i := 2) (t' := 31) (o := 2) (c := 1) (by kernel_rfl) h
  obtain ⟨y2, r2, t2⟩ := good_BoolS f2
  exact ⟨(y0, y1, y2), ⟨[c0], _, rfl, r0, ⟨[c1], _, rfl, r1, r2⟩⟩, t0, t1, t2⟩
theorem go_laws_FnExactRequest (H : Heap) (xs : List Value) (h : GoodArgs Try.prog H Try.f8.params.toList xs) : ∃ H', CR Try.prog 8 xs H (.bool true) H' := by
  rw [Try.params8] at h
  obtain ⟨w0, l0, rfl, p0, j0⟩ := good_args_cons h
  obtain ⟨w1, l1, rfl, p1, j1⟩ := good_args_cons j0
  obtain ⟨w2, l2, rfl, p2, j2⟩ := good_args_cons j1
  obtain rfl := good_args_nil j2
  obtain ⟨ys0, n0, rfl, g0⟩ := goodV_agg (by kernel_rfl) p0
  obtain ⟨a0, e0, t0⟩ := good_Plant g0
  obtain ⟨v0_0, v0_2, rfl, _⟩ := plant_rd (x0 := (a0).1) (x1 := (a0).2.1) (x2 := (a0).2.2) e0
  obtain ⟨ys1, n1, rfl, g1⟩ := goodV_agg (by kernel_rfl) p1
  obtain ⟨a1, e1, t1⟩ := good_Locking g1
  obtain ⟨v1_0, v1_1, v1_2, rfl, _⟩ := locking_rd (x0 := (a1).1) (x1 := (a1).2.1) (x2 := (a1).2.2) e1
  obtain ⟨_, g2⟩ := goodV_one (by kernel_rfl) p2
  obtain ⟨a2, e2, t2⟩ := good_Int g2
  have e2 : w2 = .int .i64 a2 := by simpa [leafRep] using e2
  subst e2
  obtain ⟨r, H', hr, rfl⟩ := r_laws_FnExactRequest (a2 := a2) e0 t0 e1 t1
  exact ⟨H', hr⟩
end Go.Proofs.Ythjphddodooahaa.AX
