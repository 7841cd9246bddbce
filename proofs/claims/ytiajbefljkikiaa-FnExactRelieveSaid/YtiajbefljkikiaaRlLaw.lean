/- FnExactRelieve: the law's run. No condition; of the program: the functions' forms. -/
import Derived.Test.YtiajbefljkikiaaRlg
import Derived.Test.YtiajbefljkikiaaRtask
namespace Go.Proofs.Ytiajbefljkikiaa.AX
open Go
set_option maxRecDepth 10000
set_option maxHeartbeats 4000000
set_option linter.unusedSimpArgs false
set_option linter.unusedVariables false
theorem rl_law {H : Heap} {f : FuncId} {args : List Value} {D : List Int × Bool} (h : Run Try.prog f args H fun r H' => Keep H H' ∧ RlV H H' r D) : Run Try.prog f args H fun r H' => Keep H H' ∧ ∃ cs F, r = .tuple #[(rSlc rInt).val cs, .bool D.2] ∧ (rSlc rInt).own H' cs D.1 F ∧ Fresh H H' F :=
  h.mono (by
    rintro r H' ⟨k, u, F, rfl, o, f⟩
    exact ⟨k, [u], F, rfl, o, f⟩)
theorem dpL_le {n : Nat} {fine : Nat → Nat → Bool} : ∀ f i : Nat, (dpL n fine f i).length ≤ f
  | 0, _ => Nat.le_refl _
  | f + 1, i => by
    rw [dpL]
    split
    · have := dpL_le (n := n) (fine := fine) f (dpT n fine n i).2.toNat
      rw [List.length_cons]
      omega
    · simp
theorem rl_tot {ts : List Tk} {ds : List Int} {r : Ru} : (rSlc rInt).tot (rlR ts ds r).1 ≤ 300 := by
  rw [leaf_tot]
  unfold rlR
  split
  · rename_i h
    have h1 := h.1
    simp only [rlOk, l17B, Bool.and_eq_true, decide_eq_true_eq] at h1
    have := dpL_le (n := ds.length) (fine := fineB ts ds r) ds.length 0
    have := h1.1.2.1
    simp only
    omega
  · simp
theorem r_laws_FnExactRelieve {H : Heap} {v0 : Value} {a0 : List (Int × Int × Int × Int × Int)} {v1 : Value} {a1 : List Int} {a2 : Int × Int × Int × Int} (h0 : ((rSlc rTask)).rd H [v0] a0) (fit0 : ((rSlc rTask)).fit a0) (h1 : ((rSlc rInt)).rd H [v1] a1) (fit1 : ((rSlc rInt)).fit a1) (h2 : (rRule).rd H (ruleC a2) a2) : Run Try.prog 9 [v0, v1, .agg #[.int .i64 (a2).1, .int .i64 (a2).2.1, .int .i64 (a2).2.2.1, .int .i64 (a2).2.2.2]] H fun r _ => r = .bool true := by
  refine Run.intro c9 rfl ?_
  by_cases hb1 : a1.length ≤ 1048576
  rotate_left
  · simp (maxSteps := 4000000) (disch := omega) only [Zq, evO, vbox, wr, Zeq, if_true, if_false, Nat.reduceEqDiff, Nat.reduceAdd, Nat.reduceLeDiff, Nat.reduceSub, and_self, and_true, true_and, reduceIte, reduceCtorEq, eq_self, implies_true, forall_const, false_implies, imp_self, decide_true, decide_false, x9, slc_len h1]
  have ht1 : ((rSlc rInt)).tot a1 ≤ 1048576 := by rw [leaf_tot]; omega
  simp (maxSteps := 4000000) (disch := omega) only [Zq, evO, vbox, wr, Zeq, if_true, if_false, Nat.reduceEqDiff, Nat.reduceAdd, Nat.reduceLeDiff, Nat.reduceSub, and_self, and_true, true_and, reduceIte, reduceCtorEq, eq_self, implies_true, forall_const, false_implies, imp_self, decide_true, decide_false, x9, slc_len h1]
  generalize hG0 : (H.push [.int .i64 (a2).1, .int .i64 (a2).2.1, .int .i64 (a2).2.2.1, .int .i64 (a2).2.2.2]) = H0
  have k0_0 : Keep H H0 := by rw [← hG0]; repeat' (first | exact Keep.refl _ | assumption | refine Keep.push' ?_ | refine Keep.set' ?_ ?_ | refine Keep.moved' ?_ ?_ | omega)
  have gb2_0 : H0.get H.nxt = some (.own [.int .i64 (a2).1, .int .i64 (a2).2.1, .int .i64 (a2).2.2.1, .int .i64 (a2).2.2.2]) := by rw [← hG0]; simp (maxSteps := 4000000) (disch := omega) only [Zq, evO, vbox, wr, Zeq, if_true, if_false, Nat.reduceEqDiff, Nat.reduceAdd, Nat.reduceLeDiff, Nat.reduceSub, and_self, and_true, true_and, reduceIte, reduceCtorEq, eq_self, implies_true, forall_const, false_implies, imp_self, decide_true, decide_false]
  have nn0 : H.nxt + 1 = H0.nxt := by rw [← hG0]; simp only [Zbg]
  first | refine G_fix [0, 1, 5, 22, 23] ?_ | refine GO_fix [0, 1, 5, 22, 23] ?_ | refine cK_fix [0, 1, 5, 22, 23] ?_
  intro T hT
  simp only [fix_nil, fix_cons, Zq, evO, vbox, wr, Zeq, if_true, if_false, Nat.reduceEqDiff, Nat.reduceAdd, Nat.reduceLeDiff, Nat.reduceSub, and_self, and_true, true_and, reduceIte, reduceCtorEq, eq_self, implies_true, forall_const, false_implies, imp_self, decide_true, decide_false] at hT
  obtain ⟨t0, t1, t5, t22, t23⟩ := hT
  refine GO_call_eq (by (simp (maxSteps := 4000000) (disch := omega) only [Zq, evO, vbox, wr, Zeq, if_true, if_false, Nat.reduceEqDiff, Nat.reduceAdd, Nat.reduceLeDiff, Nat.reduceSub, and_self, and_true, true_and, reduceIte, reduceCtorEq, eq_self, implies_true, forall_const, false_implies, imp_self, decide_true, decide_false, t0, t1, t5, t22, t23]) <;> rfl) ((szTaskS_is H0 [v0] a0 1048576 (((rSlc rTask)).rdk h0 k0_0) fit0 (by omega)).mono ?_)
  rintro w H1 ⟨k1, hw⟩
  have n1 := k1.nxt
  have gb2_1 := (k1.get H.nxt (by omega)).trans gb2_0
  have k0_1 := k0_0.trans k1
  rcases hw with rfl | ⟨q0, rfl, hq0⟩
  · simp (maxSteps := 4000000) (disch := omega) only [Zq, evO, vbox, wr, Zeq, if_true, if_false, Nat.reduceEqDiff, Nat.reduceAdd, Nat.reduceLeDiff, Nat.reduceSub, and_self, and_true, true_and, reduceIte, reduceCtorEq, eq_self, implies_true, forall_const, false_implies, imp_self, decide_true, decide_false, vbinB_ne, gb2_1, t0, t1, t5, t22, t23]
  simp (maxSteps := 4000000) (disch := omega) only [Zq, evO, vbox, wr, Zeq, if_true, if_false, Nat.reduceEqDiff, Nat.reduceAdd, Nat.reduceLeDiff, Nat.reduceSub, and_self, and_true, true_and, reduceIte, reduceCtorEq, eq_self, implies_true, forall_const, false_implies, imp_self, decide_true, decide_false, vbinB_ne, gb2_1, t0, t1, t5, t22, t23]
  have ht0 : ((rSlc rTask)).tot a0 ≤ 1048576 := by omega
  simp (maxSteps := 4000000) (disch := omega) only [ZD, Zio, Zip, pre_, beq_self_eq_true, Nat.reduceBEq, Zq, evO, vbox, wr, Zeq, if_true, if_false, Nat.reduceEqDiff, Nat.reduceAdd, Nat.reduceLeDiff, Nat.reduceSub, and_self, and_true, true_and, reduceIte, reduceCtorEq, eq_self, implies_true, forall_const, false_implies, imp_self, decide_true, decide_false, G_dreg, vbinB_ne, gb2_1, t0, t1, t5, t22, t23]
  refine GD_call_eq (by (simp (maxSteps := 4000000) (disch := omega) only [Zq, evO, vbox, wr, Zeq, if_true, if_false, Nat.reduceEqDiff, Nat.reduceAdd, Nat.reduceLeDiff, Nat.reduceSub, and_self, and_true, true_and, reduceIte, reduceCtorEq, eq_self, implies_true, forall_const, false_implies, imp_self, decide_true, decide_false, t0, t1, t5, t22, t23]) <;> rfl) ((toTaskS_is H1 [v0] a0 (((rSlc rTask)).rdk h0 k0_1) ht0).mono ?_)
  rintro _ H2 ⟨k2, csy1, Fy1, rfl, oy1_2, fy1⟩
  have n2 := k2.nxt
  have gb2_2 := (k2.get H.nxt (by omega)).trans gb2_1
  have k0_2 := k0_1.trans k2
  obtain ⟨vy1, rfl⟩ := slc_one (((rSlc rTask)).ownrd oy1_2)
  simp only [slc_val]
  simp (maxSteps := 4000000) (disch := omega) only [ZD, Zio, Zip, pre_, beq_self_eq_true, Nat.reduceBEq, Zq, evO, vbox, wr, Zeq, if_true, if_false, Nat.reduceEqDiff, Nat.reduceAdd, Nat.reduceLeDiff, Nat.reduceSub, and_self, and_true, true_and, reduceIte, reduceCtorEq, eq_self, implies_true, forall_const, false_implies, imp_self, decide_true, decide_false, vbinB_ne, gb2_2, gb2_1, t0, t1, t5, t22, t23]
  refine GD_call_eq (by (simp (maxSteps := 4000000) (disch := omega) only [Zq, evO, vbox, wr, Zeq, if_true, if_false, Nat.reduceEqDiff, Nat.reduceAdd, Nat.reduceLeDiff, Nat.reduceSub, and_self, and_true, true_and, reduceIte, reduceCtorEq, eq_self, implies_true, forall_const, false_implies, imp_self, decide_true, decide_false, t0, t1, t5, t22, t23]) <;> rfl) ((toIntS_is H2 [v1] a1 (((rSlc rInt)).rdk h1 k0_2) ht1).mono ?_)
  rintro _ H3 ⟨k3, csy2, Fy2, rfl, oy2_3, fy2⟩
  have n3 := k3.nxt
  have gb2_3 := (k3.get H.nxt (by omega)).trans gb2_2
  have k0_3 := k0_2.trans k3
  have oy1_3 := ((rSlc rTask)).ownKeep oy1_2 k3
  obtain ⟨vy2, rfl⟩ := slc_one (((rSlc rInt)).ownrd oy2_3)
  simp only [slc_val]
  simp (maxSteps := 4000000) (disch := omega) only [ZD, Zio, Zip, pre_, beq_self_eq_true, Nat.reduceBEq, Zq, evO, vbox, wr, Zeq, if_true, if_false, Nat.reduceEqDiff, Nat.reduceAdd, Nat.reduceLeDiff, Nat.reduceSub, and_self, and_true, true_and, reduceIte, reduceCtorEq, eq_self, implies_true, forall_const, false_implies, imp_self, decide_true, decide_false, vbinB_ne, gb2_3, gb2_1, gb2_2, t0, t1, t5, t22, t23]
  refine GD_call_eq (by (simp (maxSteps := 4000000) (disch := omega) only [Zq, evO, vbox, wr, Zeq, if_true, if_false, Nat.reduceEqDiff, Nat.reduceAdd, Nat.reduceLeDiff, Nat.reduceSub, and_self, and_true, true_and, reduceIte, reduceCtorEq, eq_self, implies_true, forall_const, false_implies, imp_self, decide_true, decide_false, t0, t1, t5, t22, t23]) <;> rfl) ((toRule_is H3 (ruleC a2) a2 ((rRule).rdk h2 k0_3) (Nat.zero_le _)).mono ?_)
  rintro _ H4 ⟨k4, csy3, Fy3, rfl, oy3_4, fy3⟩
  have n4 := k4.nxt
  have gb2_4 := (k4.get H.nxt (by omega)).trans gb2_3
  have k0_4 := k0_3.trans k4
  have oy1_4 := ((rSlc rTask)).ownKeep oy1_3 k4
  have oy2_4 := ((rSlc rInt)).ownKeep oy2_3 k4
  obtain rfl : csy3 = ruleC (a2) := (rRule).ownrd oy3_4
  simp only [rule_val]
  simp (maxSteps := 4000000) (disch := omega) only [ZD, Zio, Zip, pre_, beq_self_eq_true, Nat.reduceBEq, Zq, evO, vbox, wr, Zeq, if_true, if_false, Nat.reduceEqDiff, Nat.reduceAdd, Nat.reduceLeDiff, Nat.reduceSub, and_self, and_true, true_and, reduceIte, reduceCtorEq, eq_self, implies_true, forall_const, false_implies, imp_self, decide_true, decide_false, vbinB_ne, gb2_4, gb2_1, gb2_2, gb2_3, t0, t1, t5, t22, t23]
  have hR0 : ((rSlc rInt)).tot ((rlR a0 a1 a2).1) ≤ 300 := rl_tot
  refine GD_call_eq (by (simp (maxSteps := 4000000) (disch := omega) only [Zq, evO, vbox, wr, Zeq, if_true, if_false, Nat.reduceEqDiff, Nat.reduceAdd, Nat.reduceLeDiff, Nat.reduceSub, and_self, and_true, true_and, reduceIte, reduceCtorEq, eq_self, implies_true, forall_const, false_implies, imp_self, decide_true, decide_false, t0, t1, t5, t22, t23]) <;> rfl) ((rl_law (r_spec_Relieve (((rSlc rTask)).ownrd oy1_4) (ints_of (((rSlc rInt)).ownrd oy2_4)) (tot_len ht0) (tot_len ht1))).mono ?_)
  rintro _ H5 ⟨k5, csr40, Fr40, rfl, or40_5, fr40⟩
  have n5 := k5.nxt
  have gb2_5 := (k5.get H.nxt (by omega)).trans gb2_4
  have k0_5 := k0_4.trans k5
  have oy1_5 := ((rSlc rTask)).ownKeep oy1_4 k5
  have oy2_5 := ((rSlc rInt)).ownKeep oy2_4 k5
  have oy3_5 := (rRule).ownKeep oy3_4 k5
  obtain ⟨vr40, rfl⟩ := slc_one (((rSlc rInt)).ownrd or40_5)
  simp only [slc_val]
  simp (maxSteps := 4000000) (disch := omega) only [ZD, Zio, Zip, pre_, beq_self_eq_true, Nat.reduceBEq, Zq, evO, vbox, wr, Zeq, if_true, if_false, Nat.reduceEqDiff, Nat.reduceAdd, Nat.reduceLeDiff, Nat.reduceSub, and_self, and_true, true_and, reduceIte, reduceCtorEq, eq_self, implies_true, forall_const, false_implies, imp_self, decide_true, decide_false, vbinB_ne, gb2_5, gb2_1, gb2_2, gb2_3, gb2_4, t0, t1, t5, t22, t23]
  first | with_reducible refine And.intro (by repeat' (first | exact trivial | apply And.intro | omega | exact k2.get _ (by omega) | exact k3.get _ (by omega) | exact k4.get _ (by omega) | exact k5.get _ (by omega) | (simp only [Zbi, push_get']; split <;> first | omega | rfl))) ?_ | skip
  try simp (maxSteps := 4000000) (disch := omega) only [Zq, evO, vbox, wr, Zeq, if_true, if_false, Nat.reduceEqDiff, Nat.reduceAdd, Nat.reduceLeDiff, Nat.reduceSub, and_self, and_true, true_and, reduceIte, reduceCtorEq, eq_self, implies_true, forall_const, false_implies, imp_self, decide_true, decide_false, vbinB_ne, gb2_5, t0, t1, t5, t22, t23]
  first | refine G_fix [0, 1, 5, 8, 9, 37] ?_ | refine GO_fix [0, 1, 5, 8, 9, 37] ?_ | refine cK_fix [0, 1, 5, 8, 9, 37] ?_
  intro T hT
  simp only [fix_nil, fix_cons, Zq, evO, vbox, wr, Zeq, if_true, if_false, Nat.reduceEqDiff, Nat.reduceAdd, Nat.reduceLeDiff, Nat.reduceSub, and_self, and_true, true_and, reduceIte, reduceCtorEq, eq_self, implies_true, forall_const, false_implies, imp_self, decide_true, decide_false, t0, t1, t5, t22, t23] at hT
  obtain ⟨t0, t1, t5, t8, t9, t37⟩ := hT
  refine GO_call_eq (by (simp (maxSteps := 4000000) (disch := omega) only [Zq, evO, vbox, wr, Zeq, if_true, if_false, Nat.reduceEqDiff, Nat.reduceAdd, Nat.reduceLeDiff, Nat.reduceSub, and_self, and_true, true_and, reduceIte, reduceCtorEq, eq_self, implies_true, forall_const, false_implies, imp_self, decide_true, decide_false, t0, t1, t5, t8, t9, t37]) <;> rfl) ((toTaskS_is H5 [v0] a0 (((rSlc rTask)).rdk h0 k0_5) ht0).mono ?_)
  rintro _ H6 ⟨k6, csy5, Fy5, rfl, oy5_6, fy5⟩
  have n6 := k6.nxt
  have gb2_6 := (k6.get H.nxt (by omega)).trans gb2_5
  have k0_6 := k0_5.trans k6
  have or40_6 := ((rSlc rInt)).ownKeep or40_5 k6
  obtain ⟨vy5, rfl⟩ := slc_one (((rSlc rTask)).ownrd oy5_6)
  simp only [slc_val]
  simp (maxSteps := 4000000) (disch := omega) only [Zq, evO, vbox, wr, Zeq, if_true, if_false, Nat.reduceEqDiff, Nat.reduceAdd, Nat.reduceLeDiff, Nat.reduceSub, and_self, and_true, true_and, reduceIte, reduceCtorEq, eq_self, implies_true, forall_const, false_implies, imp_self, decide_true, decide_false, vbinB_ne, gb2_6, t0, t1, t5, t8, t9, t37]
  refine GO_call_eq (by (simp (maxSteps := 4000000) (disch := omega) only [Zq, evO, vbox, wr, Zeq, if_true, if_false, Nat.reduceEqDiff, Nat.reduceAdd, Nat.reduceLeDiff, Nat.reduceSub, and_self, and_true, true_and, reduceIte, reduceCtorEq, eq_self, implies_true, forall_const, false_implies, imp_self, decide_true, decide_false, t0, t1, t5, t8, t9, t37]) <;> rfl) ((toIntS_is H6 [v1] a1 (((rSlc rInt)).rdk h1 k0_6) ht1).mono ?_)
  rintro _ H7 ⟨k7, csy6, Fy6, rfl, oy6_7, fy6⟩
  have n7 := k7.nxt
  have gb2_7 := (k7.get H.nxt (by omega)).trans gb2_6
  have k0_7 := k0_6.trans k7
  have or40_7 := ((rSlc rInt)).ownKeep or40_6 k7
  have oy5_7 := ((rSlc rTask)).ownKeep oy5_6 k7
  obtain ⟨vy6, rfl⟩ := slc_one (((rSlc rInt)).ownrd oy6_7)
  simp only [slc_val]
  simp (maxSteps := 4000000) (disch := omega) only [Zq, evO, vbox, wr, Zeq, if_true, if_false, Nat.reduceEqDiff, Nat.reduceAdd, Nat.reduceLeDiff, Nat.reduceSub, and_self, and_true, true_and, reduceIte, reduceCtorEq, eq_self, implies_true, forall_const, false_implies, imp_self, decide_true, decide_false, vbinB_ne, gb2_7, t0, t1, t5, t8, t9, t37]
  first | refine G_fix [0, 1, 5, 8, 9, 10, 11, 42, 43, 44] ?_ | refine GO_fix [0, 1, 5, 8, 9, 10, 11, 42, 43, 44] ?_ | refine cK_fix [0, 1, 5, 8, 9, 10, 11, 42, 43, 44] ?_
  intro T hT
  simp only [fix_nil, fix_cons, Zq, evO, vbox, wr, Zeq, if_true, if_false, Nat.reduceEqDiff, Nat.reduceAdd, Nat.reduceLeDiff, Nat.reduceSub, and_self, and_true, true_and, reduceIte, reduceCtorEq, eq_self, implies_true, forall_const, false_implies, imp_self, decide_true, decide_false, t0, t1, t5, t8, t9, t37] at hT
  obtain ⟨t0, t1, t5, t8, t9, t10, t11, t42, t43, t44⟩ := hT
  refine GO_call_eq (by (simp (maxSteps := 4000000) (disch := omega) only [Zq, evO, vbox, wr, Zeq, if_true, if_false, Nat.reduceEqDiff, Nat.reduceAdd, Nat.reduceLeDiff, Nat.reduceSub, and_self, and_true, true_and, reduceIte, reduceCtorEq, eq_self, implies_true, forall_const, false_implies, imp_self, decide_true, decide_false, t0, t1, t5, t8, t9, t10, t11, t42, t43, t44]) <;> rfl) ((toRule_is H7 (ruleC a2) a2 ((rRule).rdk h2 k0_7) (Nat.zero_le _)).mono ?_)
  rintro _ H8 ⟨k8, csy7, Fy7, rfl, oy7_8, fy7⟩
  have n8 := k8.nxt
  have gb2_8 := (k8.get H.nxt (by omega)).trans gb2_7
  have k0_8 := k0_7.trans k8
  have or40_8 := ((rSlc rInt)).ownKeep or40_7 k8
  have oy5_8 := ((rSlc rTask)).ownKeep oy5_7 k8
  have oy6_8 := ((rSlc rInt)).ownKeep oy6_7 k8
  obtain rfl : csy7 = ruleC (a2) := (rRule).ownrd oy7_8
  simp only [rule_val]
  simp (maxSteps := 4000000) (disch := omega) only [Zq, evO, vbox, wr, Zeq, if_true, if_false, Nat.reduceEqDiff, Nat.reduceAdd, Nat.reduceLeDiff, Nat.reduceSub, and_self, and_true, true_and, reduceIte, reduceCtorEq, eq_self, implies_true, forall_const, false_implies, imp_self, decide_true, decide_false, vbinB_ne, gb2_8, t0, t1, t5, t8, t9, t10, t11, t42, t43, t44]
  refine GO_call_eq (by (simp (maxSteps := 4000000) (disch := omega) only [Zq, evO, vbox, wr, Zeq, if_true, if_false, Nat.reduceEqDiff, Nat.reduceAdd, Nat.reduceLeDiff, Nat.reduceSub, and_self, and_true, true_and, reduceIte, reduceCtorEq, eq_self, implies_true, forall_const, false_implies, imp_self, decide_true, decide_false, t0, t1, t5, t8, t9, t10, t11, t42, t43, t44]) <;> rfl) ((rl_law (r_impl_Relieve (((rSlc rTask)).ownrd oy5_8) (ints_of (((rSlc rInt)).ownrd oy6_8)) (tot_len ht0) (tot_len ht1))).mono ?_)
  rintro _ H9 ⟨k9, csr80, Fr80, rfl, or80_9, fr80⟩
  have n9 := k9.nxt
  have gb2_9 := (k9.get H.nxt (by omega)).trans gb2_8
  have k0_9 := k0_8.trans k9
  have or40_9 := ((rSlc rInt)).ownKeep or40_8 k9
  have oy5_9 := ((rSlc rTask)).ownKeep oy5_8 k9
  have oy6_9 := ((rSlc rInt)).ownKeep oy6_8 k9
  have oy7_9 := (rRule).ownKeep oy7_8 k9
  obtain ⟨vr80, rfl⟩ := slc_one (((rSlc rInt)).ownrd or80_9)
  simp only [slc_val]
  simp (maxSteps := 4000000) (disch := omega) only [Zq, evO, vbox, wr, Zeq, if_true, if_false, Nat.reduceEqDiff, Nat.reduceAdd, Nat.reduceLeDiff, Nat.reduceSub, and_self, and_true, true_and, reduceIte, reduceCtorEq, eq_self, implies_true, forall_const, false_implies, imp_self, decide_true, decide_false, vbinB_ne, gb2_9, t0, t1, t5, t8, t9, t10, t11, t42, t43, t44]
  first | refine G_fix [0, 1, 5, 8, 9, 10, 11, 12, 13, 49, 50] ?_ | refine GO_fix [0, 1, 5, 8, 9, 10, 11, 12, 13, 49, 50] ?_ | refine cK_fix [0, 1, 5, 8, 9, 10, 11, 12, 13, 49, 50] ?_
  intro T hT
  simp only [fix_nil, fix_cons, Zq, evO, vbox, wr, Zeq, if_true, if_false, Nat.reduceEqDiff, Nat.reduceAdd, Nat.reduceLeDiff, Nat.reduceSub, and_self, and_true, true_and, reduceIte, reduceCtorEq, eq_self, implies_true, forall_const, false_implies, imp_self, decide_true, decide_false, t0, t1, t5, t8, t9, t10, t11, t42, t43, t44] at hT
  obtain ⟨t0, t1, t5, t8, t9, t10, t11, t12, t13, t49, t50⟩ := hT
  refine GO_call_eq (by (simp (maxSteps := 4000000) (disch := omega) only [Zq, evO, vbox, wr, Zeq, if_true, if_false, Nat.reduceEqDiff, Nat.reduceAdd, Nat.reduceLeDiff, Nat.reduceSub, and_self, and_true, true_and, reduceIte, reduceCtorEq, eq_self, implies_true, forall_const, false_implies, imp_self, decide_true, decide_false, t0, t1, t5, t8, t9, t10, t11, t12, t13, t49, t50]) <;> rfl) ((eqIntS_is H9 [vr80] [vr40] ((rlR a0 a1 a2).1) (((rSlc rInt)).ownrd or80_9) (((rSlc rInt)).ownrd or40_9) (by omega)).mono ?_)
  rintro _ H10 ⟨k10, rfl⟩
  have n10 := k10.nxt
  have gb2_10 := (k10.get H.nxt (by omega)).trans gb2_9
  have k0_10 := k0_9.trans k10
  have or40_10 := ((rSlc rInt)).ownKeep or40_9 k10
  have oy5_10 := ((rSlc rTask)).ownKeep oy5_9 k10
  have oy6_10 := ((rSlc rInt)).ownKeep oy6_9 k10
  have or80_10 := ((rSlc rInt)).ownKeep or80_9 k10
  simp (maxSteps := 4000000) (disch := omega) only [Zq, evO, vbox, wr, Zeq, if_true, if_false, Nat.reduceEqDiff, Nat.reduceAdd, Nat.reduceLeDiff, Nat.reduceSub, and_self, and_true, true_and, reduceIte, reduceCtorEq, eq_self, implies_true, forall_const, false_implies, imp_self, decide_true, decide_false, vbinB_ne, gb2_10, t0, t1, t5, t8, t9, t10, t11, t12, t13, t49, t50]
  first | refine G_fix [0, 1, 5, 8, 9, 10, 11, 12, 13, 58, 59] ?_ | refine GO_fix [0, 1, 5, 8, 9, 10, 11, 12, 13, 58, 59] ?_ | refine cK_fix [0, 1, 5, 8, 9, 10, 11, 12, 13, 58, 59] ?_
  intro T hT
  simp only [fix_nil, fix_cons, Zq, evO, vbox, wr, Zeq, if_true, if_false, Nat.reduceEqDiff, Nat.reduceAdd, Nat.reduceLeDiff, Nat.reduceSub, and_self, and_true, true_and, reduceIte, reduceCtorEq, eq_self, implies_true, forall_const, false_implies, imp_self, decide_true, decide_false, t0, t1, t5, t8, t9, t10, t11, t12, t13, t49, t50] at hT
  obtain ⟨t0, t1, t5, t8, t9, t10, t11, t12, t13, t58, t59⟩ := hT
  refine GO_call_eq (by (simp (maxSteps := 4000000) (disch := omega) only [Zq, evO, vbox, wr, Zeq, if_true, if_false, Nat.reduceEqDiff, Nat.reduceAdd, Nat.reduceLeDiff, Nat.reduceSub, and_self, and_true, true_and, reduceIte, reduceCtorEq, eq_self, implies_true, forall_const, false_implies, imp_self, decide_true, decide_false, t0, t1, t5, t8, t9, t10, t11, t12, t13, t58, t59]) <;> rfl) ((toTaskS_is H10 [v0] a0 (((rSlc rTask)).rdk h0 k0_10) ht0).mono ?_)
  rintro _ H11 ⟨k11, csy9, Fy9, rfl, oy9_11, fy9⟩
  have n11 := k11.nxt
  have gb2_11 := (k11.get H.nxt (by omega)).trans gb2_10
  have k0_11 := k0_10.trans k11
  have or40_11 := ((rSlc rInt)).ownKeep or40_10 k11
  have oy5_11 := ((rSlc rTask)).ownKeep oy5_10 k11
  have oy6_11 := ((rSlc rInt)).ownKeep oy6_10 k11
  have or80_11 := ((rSlc rInt)).ownKeep or80_10 k11
  obtain ⟨vy9, rfl⟩ := slc_one (((rSlc rTask)).ownrd oy9_11)
  simp only [slc_val]
  simp (maxSteps := 4000000) (disch := omega) only [Zq, evO, vbox, wr, Zeq, if_true, if_false, Nat.reduceEqDiff, Nat.reduceAdd, Nat.reduceLeDiff, Nat.reduceSub, and_self, and_true, true_and, reduceIte, reduceCtorEq, eq_self, implies_true, forall_const, false_implies, imp_self, decide_true, decide_false, vbinB_ne, gb2_11, t0, t1, t5, t8, t9, t10, t11, t12, t13, t58, t59]
  refine GO_call_eq (by (simp (maxSteps := 4000000) (disch := omega) only [Zq, evO, vbox, wr, Zeq, if_true, if_false, Nat.reduceEqDiff, Nat.reduceAdd, Nat.reduceLeDiff, Nat.reduceSub, and_self, and_true, true_and, reduceIte, reduceCtorEq, eq_self, implies_true, forall_const, false_implies, imp_self, decide_true, decide_false, t0, t1, t5, t8, t9, t10, t11, t12, t13, t58, t59]) <;> rfl) ((eqTaskS_is H11 [vy5] [vy9] (a0) (((rSlc rTask)).ownrd oy5_11) (((rSlc rTask)).ownrd oy9_11) (by omega)).mono ?_)
  rintro _ H12 ⟨k12, rfl⟩
  have n12 := k12.nxt
  have gb2_12 := (k12.get H.nxt (by omega)).trans gb2_11
  have k0_12 := k0_11.trans k12
  have or40_12 := ((rSlc rInt)).ownKeep or40_11 k12
  have oy5_12 := ((rSlc rTask)).ownKeep oy5_11 k12
  have oy6_12 := ((rSlc rInt)).ownKeep oy6_11 k12
  have or80_12 := ((rSlc rInt)).ownKeep or80_11 k12
  have oy9_12 := ((rSlc rTask)).ownKeep oy9_11 k12
  simp (maxSteps := 4000000) (disch := omega) only [Zq, evO, vbox, wr, Zeq, if_true, if_false, Nat.reduceEqDiff, Nat.reduceAdd, Nat.reduceLeDiff, Nat.reduceSub, and_self, and_true, true_and, reduceIte, reduceCtorEq, eq_self, implies_true, forall_const, false_implies, imp_self, decide_true, decide_false, vbinB_ne, gb2_12, t0, t1, t5, t8, t9, t10, t11, t12, t13, t58, t59]
  refine GO_call_eq (by (simp (maxSteps := 4000000) (disch := omega) only [Zq, evO, vbox, wr, Zeq, if_true, if_false, Nat.reduceEqDiff, Nat.reduceAdd, Nat.reduceLeDiff, Nat.reduceSub, and_self, and_true, true_and, reduceIte, reduceCtorEq, eq_self, implies_true, forall_const, false_implies, imp_self, decide_true, decide_false, t0, t1, t5, t8, t9, t10, t11, t12, t13, t58, t59]) <;> rfl) ((toIntS_is H12 [v1] a1 (((rSlc rInt)).rdk h1 k0_12) ht1).mono ?_)
  rintro _ H13 ⟨k13, csy10, Fy10, rfl, oy10_13, fy10⟩
  have n13 := k13.nxt
  have gb2_13 := (k13.get H.nxt (by omega)).trans gb2_12
  have k0_13 := k0_12.trans k13
  have or40_13 := ((rSlc rInt)).ownKeep or40_12 k13
  have oy5_13 := ((rSlc rTask)).ownKeep oy5_12 k13
  have oy6_13 := ((rSlc rInt)).ownKeep oy6_12 k13
  have or80_13 := ((rSlc rInt)).ownKeep or80_12 k13
  obtain ⟨vy10, rfl⟩ := slc_one (((rSlc rInt)).ownrd oy10_13)
  simp only [slc_val]
  simp (maxSteps := 4000000) (disch := omega) only [Zq, evO, vbox, wr, Zeq, if_true, if_false, Nat.reduceEqDiff, Nat.reduceAdd, Nat.reduceLeDiff, Nat.reduceSub, and_self, and_true, true_and, reduceIte, reduceCtorEq, eq_self, implies_true, forall_const, false_implies, imp_self, decide_true, decide_false, vbinB_ne, gb2_13, t0, t1, t5, t8, t9, t10, t11, t12, t13, t58, t59]
  refine GO_call_eq (by (simp (maxSteps := 4000000) (disch := omega) only [Zq, evO, vbox, wr, Zeq, if_true, if_false, Nat.reduceEqDiff, Nat.reduceAdd, Nat.reduceLeDiff, Nat.reduceSub, and_self, and_true, true_and, reduceIte, reduceCtorEq, eq_self, implies_true, forall_const, false_implies, imp_self, decide_true, decide_false, t0, t1, t5, t8, t9, t10, t11, t12, t13, t58, t59]) <;> rfl) ((eqIntS_is H13 [vy6] [vy10] (a1) (((rSlc rInt)).ownrd oy6_13) (((rSlc rInt)).ownrd oy10_13) (by omega)).mono ?_)
  rintro _ H14 ⟨k14, rfl⟩
  have n14 := k14.nxt
  have gb2_14 := (k14.get H.nxt (by omega)).trans gb2_13
  have k0_14 := k0_13.trans k14
  have or40_14 := ((rSlc rInt)).ownKeep or40_13 k14
  have oy5_14 := ((rSlc rTask)).ownKeep oy5_13 k14
  have oy6_14 := ((rSlc rInt)).ownKeep oy6_13 k14
  have or80_14 := ((rSlc rInt)).ownKeep or80_13 k14
  have oy10_14 := ((rSlc rInt)).ownKeep oy10_13 k14
  simp (maxSteps := 4000000) (disch := omega) only [Zq, evO, vbox, wr, Zeq, if_true, if_false, Nat.reduceEqDiff, Nat.reduceAdd, Nat.reduceLeDiff, Nat.reduceSub, and_self, and_true, true_and, reduceIte, reduceCtorEq, eq_self, implies_true, forall_const, false_implies, imp_self, decide_true, decide_false, vbinB_ne, gb2_14, t0, t1, t5, t8, t9, t10, t11, t12, t13, t58, t59]
  first | refine G_fix [0, 1, 5, 8, 9, 11, 12, 13, 68, 69] ?_ | refine GO_fix [0, 1, 5, 8, 9, 11, 12, 13, 68, 69] ?_ | refine cK_fix [0, 1, 5, 8, 9, 11, 12, 13, 68, 69] ?_
  intro T hT
  simp only [fix_nil, fix_cons, Zq, evO, vbox, wr, Zeq, if_true, if_false, Nat.reduceEqDiff, Nat.reduceAdd, Nat.reduceLeDiff, Nat.reduceSub, and_self, and_true, true_and, reduceIte, reduceCtorEq, eq_self, implies_true, forall_const, false_implies, imp_self, decide_true, decide_false, t0, t1, t5, t8, t9, t10, t11, t12, t13, t58, t59] at hT
  obtain ⟨t0, t1, t5, t8, t9, t11, t12, t13, t68, t69⟩ := hT
  have hm15 := mar_le marB_Task (a0) (1)
  refine GO_call_eq (by (simp (maxSteps := 4000000) (disch := omega) only [Zq, evO, vbox, wr, Zeq, if_true, if_false, Nat.reduceEqDiff, Nat.reduceAdd, Nat.reduceLeDiff, Nat.reduceSub, and_self, and_true, true_and, reduceIte, reduceCtorEq, eq_self, implies_true, forall_const, false_implies, imp_self, decide_true, decide_false, t0, t1, t5, t8, t9, t11, t12, t13, t68, t69]) <;> rfl) ((markTaskS_is H14 [vy5] (a0) Fy5 (1) oy5_14 fy5.1 (by omega)).mono ?_)
  rintro _ H15 ⟨c15, oy5_15, rfl⟩
  have n15 := c15.nxt
  have gb2_15 := (c15.get H.nxt (by omega) (fun hm => by have := fy5.2 _ hm; omega)).trans gb2_14
  have k0_15 := c15.keep k0_14 (fun i hi => by have := fy5.2 i hi; omega)
  have or40_15 := ((rSlc rInt)).ownChg or40_14 c15 (fun i hi hm => by have := fr40.2 i hi; have := fy5.2 i hm; omega)
  have oy6_15 := ((rSlc rInt)).ownChg oy6_14 c15 (fun i hi hm => by have := fy6.2 i hi; have := fy5.2 i hm; omega)
  have or80_15 := ((rSlc rInt)).ownChg or80_14 c15 (fun i hi hm => by have := fr80.2 i hi; have := fy5.2 i hm; omega)
  simp (maxSteps := 4000000) (disch := omega) only [Zq, evO, vbox, wr, Zeq, if_true, if_false, Nat.reduceEqDiff, Nat.reduceAdd, Nat.reduceLeDiff, Nat.reduceSub, and_self, and_true, true_and, reduceIte, reduceCtorEq, eq_self, implies_true, forall_const, false_implies, imp_self, decide_true, decide_false, vbinB_ne, gb2_15, t0, t1, t5, t8, t9, t11, t12, t13, t68, t69]
  have hm16 := mar_le MarB.int (a1) (((rSlc rTask).mar (a0) (1)).2)
  refine GO_call_eq (by (simp (maxSteps := 4000000) (disch := omega) only [Zq, evO, vbox, wr, Zeq, if_true, if_false, Nat.reduceEqDiff, Nat.reduceAdd, Nat.reduceLeDiff, Nat.reduceSub, and_self, and_true, true_and, reduceIte, reduceCtorEq, eq_self, implies_true, forall_const, false_implies, imp_self, decide_true, decide_false, t0, t1, t5, t8, t9, t11, t12, t13, t68, t69]) <;> rfl) ((markIntS_is H15 [vy6] (a1) Fy6 (((rSlc rTask).mar (a0) (1)).2) oy6_15 fy6.1 (by omega)).mono ?_)
  rintro _ H16 ⟨c16, oy6_16, rfl⟩
  have n16 := c16.nxt
  have gb2_16 := (c16.get H.nxt (by omega) (fun hm => by have := fy6.2 _ hm; omega)).trans gb2_15
  have k0_16 := c16.keep k0_15 (fun i hi => by have := fy6.2 i hi; omega)
  have or40_16 := ((rSlc rInt)).ownChg or40_15 c16 (fun i hi hm => by have := fr40.2 i hi; have := fy6.2 i hm; omega)
  have or80_16 := ((rSlc rInt)).ownChg or80_15 c16 (fun i hi hm => by have := fr80.2 i hi; have := fy6.2 i hm; omega)
  simp (maxSteps := 4000000) (disch := omega) only [Zq, evO, vbox, wr, Zeq, if_true, if_false, Nat.reduceEqDiff, Nat.reduceAdd, Nat.reduceLeDiff, Nat.reduceSub, and_self, and_true, true_and, reduceIte, reduceCtorEq, eq_self, implies_true, forall_const, false_implies, imp_self, decide_true, decide_false, vbinB_ne, gb2_16, t0, t1, t5, t8, t9, t11, t12, t13, t68, t69]
  first | refine G_fix [0, 1, 5, 8, 9, 12, 13, 76, 77, 78] ?_ | refine GO_fix [0, 1, 5, 8, 9, 12, 13, 76, 77, 78] ?_ | refine cK_fix [0, 1, 5, 8, 9, 12, 13, 76, 77, 78] ?_
  intro T hT
  simp only [fix_nil, fix_cons, Zq, evO, vbox, wr, Zeq, if_true, if_false, Nat.reduceEqDiff, Nat.reduceAdd, Nat.reduceLeDiff, Nat.reduceSub, and_self, and_true, true_and, reduceIte, reduceCtorEq, eq_self, implies_true, forall_const, false_implies, imp_self, decide_true, decide_false, t0, t1, t5, t8, t9, t11, t12, t13, t68, t69] at hT
  obtain ⟨t0, t1, t5, t8, t9, t12, t13, t76, t77, t78⟩ := hT
  refine GO_call_eq (by (simp (maxSteps := 4000000) (disch := omega) only [Zq, evO, vbox, wr, Zeq, if_true, if_false, Nat.reduceEqDiff, Nat.reduceAdd, Nat.reduceLeDiff, Nat.reduceSub, and_self, and_true, true_and, reduceIte, reduceCtorEq, eq_self, implies_true, forall_const, false_implies, imp_self, decide_true, decide_false, t0, t1, t5, t8, t9, t12, t13, t76, t77, t78]) <;> rfl) ((eqIntS_is H16 [vr80] [vr40] ((rlR a0 a1 a2).1) (((rSlc rInt)).ownrd or80_16) (((rSlc rInt)).ownrd or40_16) (by omega)).mono ?_)
  rintro _ H17 ⟨k17, rfl⟩
  have n17 := k17.nxt
  have gb2_17 := (k17.get H.nxt (by omega)).trans gb2_16
  have k0_17 := k0_16.trans k17
  have or40_17 := ((rSlc rInt)).ownKeep or40_16 k17
  have or80_17 := ((rSlc rInt)).ownKeep or80_16 k17
  simp (maxSteps := 4000000) (disch := omega) only [Zq, evO, vbox, wr, Zeq, if_true, if_false, Nat.reduceEqDiff, Nat.reduceAdd, Nat.reduceLeDiff, Nat.reduceSub, and_self, and_true, true_and, reduceIte, reduceCtorEq, eq_self, implies_true, forall_const, false_implies, imp_self, decide_true, decide_false, vbinB_ne, gb2_17, t0, t1, t5, t8, t9, t12, t13, t76, t77, t78]
  first | refine G_fix [0, 1, 5, 8, 9, 12, 87, 88] ?_ | refine GO_fix [0, 1, 5, 8, 9, 12, 87, 88] ?_ | refine cK_fix [0, 1, 5, 8, 9, 12, 87, 88] ?_
  intro T hT
  simp only [fix_nil, fix_cons, Zq, evO, vbox, wr, Zeq, if_true, if_false, Nat.reduceEqDiff, Nat.reduceAdd, Nat.reduceLeDiff, Nat.reduceSub, and_self, and_true, true_and, reduceIte, reduceCtorEq, eq_self, implies_true, forall_const, false_implies, imp_self, decide_true, decide_false, t0, t1, t5, t8, t9, t12, t13, t76, t77, t78] at hT
  obtain ⟨t0, t1, t5, t8, t9, t12, t87, t88⟩ := hT
  have hm18 := mar_le MarB.int ((rlR a0 a1 a2).1) (1)
  refine GO_call_eq (by (simp (maxSteps := 4000000) (disch := omega) only [Zq, evO, vbox, wr, Zeq, if_true, if_false, Nat.reduceEqDiff, Nat.reduceAdd, Nat.reduceLeDiff, Nat.reduceSub, and_self, and_true, true_and, reduceIte, reduceCtorEq, eq_self, implies_true, forall_const, false_implies, imp_self, decide_true, decide_false, t0, t1, t5, t8, t9, t12, t87, t88]) <;> rfl) ((markIntS_is H17 [vr80] ((rlR a0 a1 a2).1) Fr80 (1) or80_17 fr80.1 (by omega)).mono ?_)
  rintro _ H18 ⟨c18, or80_18, rfl⟩
  have n18 := c18.nxt
  have gb2_18 := (c18.get H.nxt (by omega) (fun hm => by have := fr80.2 _ hm; omega)).trans gb2_17
  have k0_18 := c18.keep k0_17 (fun i hi => by have := fr80.2 i hi; omega)
  have or40_18 := ((rSlc rInt)).ownChg or40_17 c18 (fun i hi hm => by have := fr40.2 i hi; have := fr80.2 i hm; omega)
  simp (maxSteps := 4000000) (disch := omega) only [Zq, evO, vbox, wr, Zeq, if_true, if_false, Nat.reduceEqDiff, Nat.reduceAdd, Nat.reduceLeDiff, Nat.reduceSub, and_self, and_true, true_and, reduceIte, reduceCtorEq, eq_self, implies_true, forall_const, false_implies, imp_self, decide_true, decide_false, vbinB_ne, gb2_18, t0, t1, t5, t8, t9, t12, t87, t88]
  refine GO_call_eq (by (simp (maxSteps := 4000000) (disch := omega) only [Zq, evO, vbox, wr, Zeq, if_true, if_false, Nat.reduceEqDiff, Nat.reduceAdd, Nat.reduceLeDiff, Nat.reduceSub, and_self, and_true, true_and, reduceIte, reduceCtorEq, eq_self, implies_true, forall_const, false_implies, imp_self, decide_true, decide_false, t0, t1, t5, t8, t9, t12, t87, t88]) <;> rfl) ((heldIntS_is H18 [vr80] ((rlR a0 a1 a2).1) (1) (((rSlc rInt)).ownrd or80_18) (by omega)).mono ?_)
  rintro _ H19 ⟨k19, rfl⟩
  have n19 := k19.nxt
  have gb2_19 := (k19.get H.nxt (by omega)).trans gb2_18
  have k0_19 := k0_18.trans k19
  have or40_19 := ((rSlc rInt)).ownKeep or40_18 k19
  have or80_19 := ((rSlc rInt)).ownKeep or80_18 k19
  simp (maxSteps := 4000000) (disch := omega) only [Zq, evO, vbox, wr, Zeq, if_true, if_false, Nat.reduceEqDiff, Nat.reduceAdd, Nat.reduceLeDiff, Nat.reduceSub, and_self, and_true, true_and, reduceIte, reduceCtorEq, eq_self, implies_true, forall_const, false_implies, imp_self, decide_true, decide_false, vbinB_ne, gb2_19, t0, t1, t5, t8, t9, t12, t87, t88]
  first | refine G_fix [0, 1, 5, 8, 9, 12, 15] ?_ | refine GO_fix [0, 1, 5, 8, 9, 12, 15] ?_ | refine cK_fix [0, 1, 5, 8, 9, 12, 15] ?_
  intro T hT
  simp only [fix_nil, fix_cons, Zq, evO, vbox, wr, Zeq, if_true, if_false, Nat.reduceEqDiff, Nat.reduceAdd, Nat.reduceLeDiff, Nat.reduceSub, and_self, and_true, true_and, reduceIte, reduceCtorEq, eq_self, implies_true, forall_const, false_implies, imp_self, decide_true, decide_false, t0, t1, t5, t8, t9, t12, t87, t88] at hT
  obtain ⟨t0, t1, t5, t8, t9, t12, t15⟩ := hT
  simp (maxSteps := 4000000) (disch := omega) only [ZD, Zio, Zip, pre_, beq_self_eq_true, Nat.reduceBEq, Zq, evO, vbox, wr, Zeq, if_true, if_false, Nat.reduceEqDiff, Nat.reduceAdd, Nat.reduceLeDiff, Nat.reduceSub, and_self, and_true, true_and, reduceIte, reduceCtorEq, eq_self, implies_true, forall_const, false_implies, imp_self, decide_true, decide_false, G_dreg, vbinB_ne, gb2_19, t0, t1, t5, t8, t9, t12, t15]
  refine GD_call_eq (by (simp (maxSteps := 4000000) (disch := omega) only [Zq, evO, vbox, wr, Zeq, if_true, if_false, Nat.reduceEqDiff, Nat.reduceAdd, Nat.reduceLeDiff, Nat.reduceSub, and_self, and_true, true_and, reduceIte, reduceCtorEq, eq_self, implies_true, forall_const, false_implies, imp_self, decide_true, decide_false, t0, t1, t5, t8, t9, t12, t15]) <;> rfl) ((toTaskS_is H19 [v0] a0 (((rSlc rTask)).rdk h0 k0_19) ht0).mono ?_)
  rintro _ H20 ⟨k20, csy11, Fy11, rfl, oy11_20, fy11⟩
  have n20 := k20.nxt
  have gb2_20 := (k20.get H.nxt (by omega)).trans gb2_19
  have k0_20 := k0_19.trans k20
  have or40_20 := ((rSlc rInt)).ownKeep or40_19 k20
  have or80_20 := ((rSlc rInt)).ownKeep or80_19 k20
  obtain ⟨vy11, rfl⟩ := slc_one (((rSlc rTask)).ownrd oy11_20)
  simp only [slc_val]
  simp (maxSteps := 4000000) (disch := omega) only [ZD, Zio, Zip, pre_, beq_self_eq_true, Nat.reduceBEq, Zq, evO, vbox, wr, Zeq, if_true, if_false, Nat.reduceEqDiff, Nat.reduceAdd, Nat.reduceLeDiff, Nat.reduceSub, and_self, and_true, true_and, reduceIte, reduceCtorEq, eq_self, implies_true, forall_const, false_implies, imp_self, decide_true, decide_false, vbinB_ne, gb2_20, gb2_19, t0, t1, t5, t8, t9, t12, t15]
  refine GD_call_eq (by (simp (maxSteps := 4000000) (disch := omega) only [Zq, evO, vbox, wr, Zeq, if_true, if_false, Nat.reduceEqDiff, Nat.reduceAdd, Nat.reduceLeDiff, Nat.reduceSub, and_self, and_true, true_and, reduceIte, reduceCtorEq, eq_self, implies_true, forall_const, false_implies, imp_self, decide_true, decide_false, t0, t1, t5, t8, t9, t12, t15]) <;> rfl) ((toIntS_is H20 [v1] a1 (((rSlc rInt)).rdk h1 k0_20) ht1).mono ?_)
  rintro _ H21 ⟨k21, csy12, Fy12, rfl, oy12_21, fy12⟩
  have n21 := k21.nxt
  have gb2_21 := (k21.get H.nxt (by omega)).trans gb2_20
  have k0_21 := k0_20.trans k21
  have or40_21 := ((rSlc rInt)).ownKeep or40_20 k21
  have or80_21 := ((rSlc rInt)).ownKeep or80_20 k21
  have oy11_21 := ((rSlc rTask)).ownKeep oy11_20 k21
  obtain ⟨vy12, rfl⟩ := slc_one (((rSlc rInt)).ownrd oy12_21)
  simp only [slc_val]
  simp (maxSteps := 4000000) (disch := omega) only [ZD, Zio, Zip, pre_, beq_self_eq_true, Nat.reduceBEq, Zq, evO, vbox, wr, Zeq, if_true, if_false, Nat.reduceEqDiff, Nat.reduceAdd, Nat.reduceLeDiff, Nat.reduceSub, and_self, and_true, true_and, reduceIte, reduceCtorEq, eq_self, implies_true, forall_const, false_implies, imp_self, decide_true, decide_false, vbinB_ne, gb2_21, gb2_19, gb2_20, t0, t1, t5, t8, t9, t12, t15]
  refine GD_call_eq (by (simp (maxSteps := 4000000) (disch := omega) only [Zq, evO, vbox, wr, Zeq, if_true, if_false, Nat.reduceEqDiff, Nat.reduceAdd, Nat.reduceLeDiff, Nat.reduceSub, and_self, and_true, true_and, reduceIte, reduceCtorEq, eq_self, implies_true, forall_const, false_implies, imp_self, decide_true, decide_false, t0, t1, t5, t8, t9, t12, t15]) <;> rfl) ((toRule_is H21 (ruleC a2) a2 ((rRule).rdk h2 k0_21) (Nat.zero_le _)).mono ?_)
  rintro _ H22 ⟨k22, csy13, Fy13, rfl, oy13_22, fy13⟩
  have n22 := k22.nxt
  have gb2_22 := (k22.get H.nxt (by omega)).trans gb2_21
  have k0_22 := k0_21.trans k22
  have or40_22 := ((rSlc rInt)).ownKeep or40_21 k22
  have or80_22 := ((rSlc rInt)).ownKeep or80_21 k22
  have oy11_22 := ((rSlc rTask)).ownKeep oy11_21 k22
  have oy12_22 := ((rSlc rInt)).ownKeep oy12_21 k22
  obtain rfl : csy13 = ruleC (a2) := (rRule).ownrd oy13_22
  simp only [rule_val]
  simp (maxSteps := 4000000) (disch := omega) only [ZD, Zio, Zip, pre_, beq_self_eq_true, Nat.reduceBEq, Zq, evO, vbox, wr, Zeq, if_true, if_false, Nat.reduceEqDiff, Nat.reduceAdd, Nat.reduceLeDiff, Nat.reduceSub, and_self, and_true, true_and, reduceIte, reduceCtorEq, eq_self, implies_true, forall_const, false_implies, imp_self, decide_true, decide_false, vbinB_ne, gb2_22, gb2_19, gb2_20, gb2_21, t0, t1, t5, t8, t9, t12, t15]
  refine GD_call_eq (by (simp (maxSteps := 4000000) (disch := omega) only [Zq, evO, vbox, wr, Zeq, if_true, if_false, Nat.reduceEqDiff, Nat.reduceAdd, Nat.reduceLeDiff, Nat.reduceSub, and_self, and_true, true_and, reduceIte, reduceCtorEq, eq_self, implies_true, forall_const, false_implies, imp_self, decide_true, decide_false, t0, t1, t5, t8, t9, t12, t15]) <;> rfl) ((rl_law (r_impl_Relieve (((rSlc rTask)).ownrd oy11_22) (ints_of (((rSlc rInt)).ownrd oy12_22)) (tot_len ht0) (tot_len ht1))).mono ?_)
  rintro _ H23 ⟨k23, csr140, Fr140, rfl, or140_23, fr140⟩
  have n23 := k23.nxt
  have gb2_23 := (k23.get H.nxt (by omega)).trans gb2_22
  have k0_23 := k0_22.trans k23
  have or40_23 := ((rSlc rInt)).ownKeep or40_22 k23
  have or80_23 := ((rSlc rInt)).ownKeep or80_22 k23
  have oy11_23 := ((rSlc rTask)).ownKeep oy11_22 k23
  have oy12_23 := ((rSlc rInt)).ownKeep oy12_22 k23
  have oy13_23 := (rRule).ownKeep oy13_22 k23
  obtain ⟨vr140, rfl⟩ := slc_one (((rSlc rInt)).ownrd or140_23)
  simp only [slc_val]
  simp (maxSteps := 4000000) (disch := omega) only [ZD, Zio, Zip, pre_, beq_self_eq_true, Nat.reduceBEq, Zq, evO, vbox, wr, Zeq, if_true, if_false, Nat.reduceEqDiff, Nat.reduceAdd, Nat.reduceLeDiff, Nat.reduceSub, and_self, and_true, true_and, reduceIte, reduceCtorEq, eq_self, implies_true, forall_const, false_implies, imp_self, decide_true, decide_false, vbinB_ne, gb2_23, gb2_19, gb2_20, gb2_21, gb2_22, t0, t1, t5, t8, t9, t12, t15]
  first | with_reducible refine And.intro (by repeat' (first | exact trivial | apply And.intro | omega | exact k20.get _ (by omega) | exact k21.get _ (by omega) | exact k22.get _ (by omega) | exact k23.get _ (by omega) | (simp only [Zbi, push_get']; split <;> first | omega | rfl))) ?_ | skip
  try simp (maxSteps := 4000000) (disch := omega) only [Zq, evO, vbox, wr, Zeq, if_true, if_false, Nat.reduceEqDiff, Nat.reduceAdd, Nat.reduceLeDiff, Nat.reduceSub, and_self, and_true, true_and, reduceIte, reduceCtorEq, eq_self, implies_true, forall_const, false_implies, imp_self, decide_true, decide_false, vbinB_ne, gb2_23, t0, t1, t5, t8, t9, t12, t15]
  first | refine G_fix [9, 12, 15, 18, 108, 109] ?_ | refine GO_fix [9, 12, 15, 18, 108, 109] ?_ | refine cK_fix [9, 12, 15, 18, 108, 109] ?_
  intro T hT
  simp only [fix_nil, fix_cons, Zq, evO, vbox, wr, Zeq, if_true, if_false, Nat.reduceEqDiff, Nat.reduceAdd, Nat.reduceLeDiff, Nat.reduceSub, and_self, and_true, true_and, reduceIte, reduceCtorEq, eq_self, implies_true, forall_const, false_implies, imp_self, decide_true, decide_false, t0, t1, t5, t8, t9, t12, t15] at hT
  obtain ⟨t9, t12, t15, t18, t108, t109⟩ := hT
  refine GO_call_eq (by (simp (maxSteps := 4000000) (disch := omega) only [Zq, evO, vbox, wr, Zeq, if_true, if_false, Nat.reduceEqDiff, Nat.reduceAdd, Nat.reduceLeDiff, Nat.reduceSub, and_self, and_true, true_and, reduceIte, reduceCtorEq, eq_self, implies_true, forall_const, false_implies, imp_self, decide_true, decide_false, t9, t12, t15, t18, t108, t109]) <;> rfl) ((eqIntS_is H23 [vr140] [vr40] ((rlR a0 a1 a2).1) (((rSlc rInt)).ownrd or140_23) (((rSlc rInt)).ownrd or40_23) (by omega)).mono ?_)
  rintro _ H24 ⟨k24, rfl⟩
  have n24 := k24.nxt
  have gb2_24 := (k24.get H.nxt (by omega)).trans gb2_23
  have k0_24 := k0_23.trans k24
  have or40_24 := ((rSlc rInt)).ownKeep or40_23 k24
  have or80_24 := ((rSlc rInt)).ownKeep or80_23 k24
  have or140_24 := ((rSlc rInt)).ownKeep or140_23 k24
  simp (maxSteps := 4000000) (disch := omega) only [Zq, evO, vbox, wr, Zeq, if_true, if_false, Nat.reduceEqDiff, Nat.reduceAdd, Nat.reduceLeDiff, Nat.reduceSub, and_self, and_true, true_and, reduceIte, reduceCtorEq, eq_self, implies_true, forall_const, false_implies, imp_self, decide_true, decide_false, vbinB_ne, gb2_24, t9, t12, t15, t18, t108, t109]
  first | refine G_fix [15, 117, 118] ?_ | refine GO_fix [15, 117, 118] ?_ | refine cK_fix [15, 117, 118] ?_
  intro T hT
  simp only [fix_nil, fix_cons, Zq, evO, vbox, wr, Zeq, if_true, if_false, Nat.reduceEqDiff, Nat.reduceAdd, Nat.reduceLeDiff, Nat.reduceSub, and_self, and_true, true_and, reduceIte, reduceCtorEq, eq_self, implies_true, forall_const, false_implies, imp_self, decide_true, decide_false, t9, t12, t15, t18, t108, t109] at hT
  obtain ⟨t15, t117, t118⟩ := hT
  refine GO_call_eq (by (simp (maxSteps := 4000000) (disch := omega) only [Zq, evO, vbox, wr, Zeq, if_true, if_false, Nat.reduceEqDiff, Nat.reduceAdd, Nat.reduceLeDiff, Nat.reduceSub, and_self, and_true, true_and, reduceIte, reduceCtorEq, eq_self, implies_true, forall_const, false_implies, imp_self, decide_true, decide_false, t15, t117, t118]) <;> rfl) ((heldIntS_is H24 [vr80] ((rlR a0 a1 a2).1) (1) (((rSlc rInt)).ownrd or80_24) (by omega)).mono ?_)
  rintro _ H25 ⟨k25, rfl⟩
  have n25 := k25.nxt
  have gb2_25 := (k25.get H.nxt (by omega)).trans gb2_24
  have k0_25 := k0_24.trans k25
  have or40_25 := ((rSlc rInt)).ownKeep or40_24 k25
  have or80_25 := ((rSlc rInt)).ownKeep or80_24 k25
  have or140_25 := ((rSlc rInt)).ownKeep or140_24 k25
  simp (maxSteps := 4000000) (disch := omega) only [Zq, evO, vbox, wr, Zeq, if_true, if_false, Nat.reduceEqDiff, Nat.reduceAdd, Nat.reduceLeDiff, Nat.reduceSub, and_self, and_true, true_and, reduceIte, reduceCtorEq, eq_self, implies_true, forall_const, false_implies, imp_self, decide_true, decide_false, vbinB_ne, gb2_25, t15, t117, t118]
theorem good_Int {H : Heap} {n : Nat} {xs : List Value} (h : Good Try.prog H n 3 xs) : ∃ a, (rInt).rd H xs a ∧ (rInt).fit a := by
  obtain ⟨z, rfl, _⟩ := good_int (k := .i64) (by kernel_rfl) h
  exact ⟨z, rfl, trivial⟩
theorem good_Task {H : Heap} {n : Nat} {xs : List Value} (h : Good Try.prog H n 114 xs) : ∃ a, (rTask).rd H xs a ∧ (rTask).fit a := by
  have hl := good_cells (c := 5) (by kernel_rfl) (by kernel_rfl) h
  obtain ⟨c0, c1, c2, c3, c4, rfl⟩ : ∃ c0 c1 c2 c3 c4, xs = [c0, c1, c2, c3, c4] := by
    match xs, hl with
    | [c0, c1, c2, c3, c4], _ => exact ⟨c0, c1, c2, c3, c4, rfl⟩
  obtain ⟨_, f0⟩ := good_field (i := 0) (t' := 3) (o := 0) (c := 1) (by kernel_rfl) h
  obtain ⟨y0, r0, t0⟩ := good_Int f0
  obtain ⟨_, f1⟩ := good_field (i := 1) (t' := 3) (o := 1) (c := 1) (by kernel_rfl) h
  obtain ⟨y1, r1, t1⟩ := good_Int f1
  obtain ⟨_, f2⟩ := good_field (i := 2) (t' := 3) (o := 2) (c := 1) (by kernel_rfl) h
  obtain ⟨y2, r2, t2⟩ := good_Int f2
  obtain ⟨_, f3⟩ := good_field (i := 3) (t' := 3) (o := 3) (c := 1) (by kernel_rfl) h
  obtain ⟨y3, r3, t3⟩ := good_Int f3
  obtain ⟨_, f4⟩ := good_field (i := 4) (t' := 3) (o := 4) (c := 1) (by kernel_rfl) h
  obtain ⟨y4, r4, t4⟩ := good_Int f4
  have e0 : c0 = .int .i64 y0 := by have := r0; simpa [leafRep] using this
  subst e0
  have e1 : c1 = .int .i64 y1 := by have := r1; simpa [leafRep] using this
  subst e1
  have e2 : c2 = .int .i64 y2 := by have := r2; simpa [leafRep] using this
  subst e2
  have e3 : c3 = .int .i64 y3 := by have := r3; simpa [leafRep] using this
  subst e3
  have e4 : c4 = .int .i64 y4 := by have := r4; simpa [leafRep] using this
  subst e4
  exact ⟨(y0, y1, y2, y3, y4), rfl, trivial⟩
theorem good_TaskS {H : Heap} {n : Nat} {xs : List Value} (h : Good Try.prog H n 75 xs) : ∃ a, ((rSlc rTask)).rd H xs a ∧ ((rSlc rTask)).fit a :=
  good_slcs (e := 114) (c := 5) (by kernel_rfl) (by kernel_rfl) (fun m row _ hg => good_Task hg) rfl h
theorem good_IntS {H : Heap} {n : Nat} {xs : List Value} (h : Good Try.prog H n 43 xs) : ∃ a, ((rSlc rInt)).rd H xs a ∧ ((rSlc rInt)).fit a :=
  good_slcs (e := 3) (c := 1) (by kernel_rfl) (by kernel_rfl) (fun m row _ hg => good_Int hg) rfl h
theorem good_Rule {H : Heap} {n : Nat} {xs : List Value} (h : Good Try.prog H n 77 xs) : ∃ a, (rRule).rd H xs a ∧ (rRule).fit a := by
  have hl := good_cells (c := 4) (by kernel_rfl) (by kernel_rfl) h
  obtain ⟨c0, c1, c2, c3, rfl⟩ : ∃ c0 c1 c2 c3, xs = [c0, c1, c2, c3] := by
    match xs, hl with
    | [c0, c1, c2, c3], _ => exact ⟨c0, c1, c2, c3, rfl⟩
  obtain ⟨_, f0⟩ := good_field (i := 0) (t' := 3) (o := 0) (c := 1) (by kernel_rfl) h
  obtain ⟨y0, r0, t0⟩ := good_Int f0
  obtain ⟨_, f1⟩ := good_field (i := 1) (t' := 3) (o := 1) (c := 1) (by kernel_rfl) h
  obtain ⟨y1, r1, t1⟩ := good_Int f1
  obtain ⟨_, f2⟩ := good_field (i := 2) (t' := 3) (o := 2) (c := 1) (by kernel_rfl) h
  obtain ⟨y2, r2, t2⟩ := good_Int f2
  obtain ⟨_, f3⟩ := good_field (i := 3) (t' := 3) (o := 3) (c := 1) (by kernel_rfl) h
  obtain ⟨y3, r3, t3⟩ := good_Int f3
  have e0 : c0 = .int .i64 y0 := by have := r0; simpa [leafRep] using this
  subst e0
  have e1 : c1 = .int .i64 y1 := by have := r1; simpa [leafRep] using this
  subst e1
  have e2 : c2 = .int .i64 y2 := by have := r2; simpa [leafRep] using this
  subst e2
  have e3 : c3 = .int .i64 y3 := by have := r3; simpa [leafRep] using this
  subst e3
  exact ⟨(y0, y1, y2, y3), rfl, trivial⟩
theorem go_laws_FnExactRelieve (H : Heap) (xs : List Value) (h : GoodArgs Try.prog H Try.f9.params.toList xs) : ∃ H', CR Try.prog 9 xs H (.bool true) H' := by
  rw [Try.params9] at h
  obtain ⟨w0, l0, rfl, p0, j0⟩ := good_args_cons h
  obtain ⟨w1, l1, rfl, p1, j1⟩ := good_args_cons j0
  obtain ⟨w2, l2, rfl, p2, j2⟩ := good_args_cons j1
  obtain rfl := good_args_nil j2
  obtain ⟨_, g0⟩ := goodV_one (by kernel_rfl) p0
  obtain ⟨a0, e0, t0⟩ := good_TaskS g0
  obtain ⟨_, g1⟩ := goodV_one (by kernel_rfl) p1
  obtain ⟨a1, e1, t1⟩ := good_IntS g1
  obtain ⟨ys2, n2, rfl, g2⟩ := goodV_agg (by kernel_rfl) p2
  obtain ⟨a2, e2, t2⟩ := good_Rule g2
  obtain rfl : ys2 = ruleC a2 := e2
  obtain ⟨r, H', hr, rfl⟩ := r_laws_FnExactRelieve  e0 t0 e1 t1 rfl
  exact ⟨H', hr⟩
end Go.Proofs.Ytiajbefljkikiaa.AX
