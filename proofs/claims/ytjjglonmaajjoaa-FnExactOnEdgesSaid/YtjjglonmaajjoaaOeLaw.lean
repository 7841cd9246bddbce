/- FnExactOnEdges: the law's run. No condition; of the program: the functions' forms. -/
import Derived.Test.YtjjglonmaajjoaaPde
import Derived.Test.YtjjglonmaajjoaaRmk
namespace Go.Proofs.Ytjjglonmaajjoaa.AX
open Go
set_option maxRecDepth 10000
set_option maxHeartbeats 4000000
set_option linter.unusedSimpArgs false
set_option linter.unusedVariables false
theorem net_law {H : Heap} {v : Value} {p : Int × List Ed} (h : rNet.rd H [.int .i64 p.1, v] p) (ht : rNet.tot p ≤ 1048576) : (rSlc rEdge).rd H [v] p.2 ∧ p.2.length ≤ 1048576 := by
  obtain ⟨a, e, q⟩ := net_rd (x0 := p.1) (x1 := p.2) h
  simp only [List.cons.injEq, and_true, true_and] at e
  subst e
  refine ⟨q, ?_⟩
  have : rNet.tot (p.1, p.2) = (rSlc rEdge).tot p.2 := net_tot
  rw [flat_tot] at this
  have e2 : rNet.tot p = rNet.tot (p.1, p.2) := rfl
  omega
theorem mar_Net (x : Int × (List (Int × Int × Int × Int))) (k : Nat) : (mNet x k).2 ≤ k + 99 * rNet.tot x := by
  obtain ⟨x0, x1⟩ := x
  rw [net_tot]
  simp only [mNet]
  have b1 := mar_le marB_Edge x1 (k)
  omega
theorem own_law {α : Type} {ρ : Rep α} {X : List α} {f : FuncId} {args : List Value} {H : Heap} (h : Run Try.prog f args H fun r H' => Keep H H' ∧ OwnS ρ H H' r X) : Run Try.prog f args H fun r H' => Keep H H' ∧ ∃ cs F, r = (rSlc ρ).val cs ∧ (rSlc ρ).own H' cs X F ∧ Fresh H H' F :=
  h.mono (by rintro r H' ⟨k, F, hF, fF⟩; exact ⟨k, [r], F, rfl, hF, fF⟩)
theorem own_law2 {X : List Int} {f : FuncId} {args : List Value} {H : Heap} (h : Run Try.prog f args H fun r H' => Keep H H' ∧ NewI H H' r X) : Run Try.prog f args H fun r H' => Keep H H' ∧ OwnS rInt H H' r X :=
  h.mono (by rintro r H' ⟨k, o⟩; exact ⟨k, o.ownI⟩)
theorem heldIntS_is : IsHeld Try.prog (rSlc rInt) (rSlc rInt).mar 44 := heldHeldInt_is c44
theorem on_len (n : Int) (es : List Ed) (l : List Tp) (la : List Int) (m : Int) : (rSlc rInt).tot (noOr (dayOk n es l la) (onL es l la m)) ≤ 300 := by
  rw [leaf_tot, noOr]
  split
  · rename_i h
    rw [onL_len]
    have := (dy_of h).1.d7
    omega
  · simp
theorem r_laws_FnExactOnEdges {H : Heap} {v0_1 : Value} {a0 : Int × (List (Int × Int × Int × Int))} {v1 : Value} {a1 : List (ByteArray × (List (Int × Int × Int)))} {v2 : Value} {a2 : List Int} {a3 : Int} (h0 : (rNet).rd H [.int .i64 (a0).1, v0_1] a0) (fit0 : (rNet).fit a0) (h1 : ((rSlc rTrip)).rd H [v1] a1) (fit1 : ((rSlc rTrip)).fit a1) (h2 : ((rSlc rInt)).rd H [v2] a2) (fit2 : ((rSlc rInt)).fit a2) : Run Try.prog 9 [.agg #[.int .i64 (a0).1, v0_1], v1, v2, .int .i64 a3] H fun r _ => r = .bool true := by
  refine Run.intro c9 rfl ?_
  by_cases hb2 : a2.length ≤ 1048576
  rotate_left
  · simp (maxSteps := 4000000) (disch := omega) only [Zq, evO, vbox, wr, Zeq, if_true, if_false, Nat.reduceEqDiff, Nat.reduceAdd, Nat.reduceLeDiff, Nat.reduceSub, and_self, and_true, true_and, reduceIte, reduceCtorEq, eq_self, implies_true, forall_const, false_implies, imp_self, decide_true, decide_false, x9, slc_len h2]
  have ht2 : ((rSlc rInt)).tot a2 ≤ 1048576 := by rw [leaf_tot]; omega
  simp (maxSteps := 4000000) (disch := omega) only [Zq, evO, vbox, wr, Zeq, if_true, if_false, Nat.reduceEqDiff, Nat.reduceAdd, Nat.reduceLeDiff, Nat.reduceSub, and_self, and_true, true_and, reduceIte, reduceCtorEq, eq_self, implies_true, forall_const, false_implies, imp_self, decide_true, decide_false, x9, slc_len h2]
  generalize hG0 : (H.push [.int .i64 (a0).1, v0_1]) = H0
  have k0_0 : Keep H H0 := by rw [← hG0]; repeat' (first | exact Keep.refl _ | assumption | refine Keep.push' ?_ | refine Keep.set' ?_ ?_ | refine Keep.moved' ?_ ?_ | omega)
  have gb0_0 : H0.get H.nxt = some (.own [.int .i64 (a0).1, v0_1]) := by rw [← hG0]; simp (maxSteps := 4000000) (disch := omega) only [Zq, evO, vbox, wr, Zeq, if_true, if_false, Nat.reduceEqDiff, Nat.reduceAdd, Nat.reduceLeDiff, Nat.reduceSub, and_self, and_true, true_and, reduceIte, reduceCtorEq, eq_self, implies_true, forall_const, false_implies, imp_self, decide_true, decide_false]
  have nn0 : H.nxt + 1 = H0.nxt := by rw [← hG0]; simp only [Zbg]
  first | refine G_fix [1, 2, 3, 4, 22, 23] ?_ | refine GO_fix [1, 2, 3, 4, 22, 23] ?_ | refine cK_fix [1, 2, 3, 4, 22, 23] ?_
  intro T hT
  simp only [fix_nil, fix_cons, Zq, evO, vbox, wr, Zeq, if_true, if_false, Nat.reduceEqDiff, Nat.reduceAdd, Nat.reduceLeDiff, Nat.reduceSub, and_self, and_true, true_and, reduceIte, reduceCtorEq, eq_self, implies_true, forall_const, false_implies, imp_self, decide_true, decide_false] at hT
  obtain ⟨t1, t2, t3, t4, t22, t23⟩ := hT
  refine GO_call_eq (by (simp (maxSteps := 4000000) (disch := omega) only [Zq, evO, vbox, wr, Zeq, if_true, if_false, Nat.reduceEqDiff, Nat.reduceAdd, Nat.reduceLeDiff, Nat.reduceSub, and_self, and_true, true_and, reduceIte, reduceCtorEq, eq_self, implies_true, forall_const, false_implies, imp_self, decide_true, decide_false, t1, t2, t3, t4, t22, t23]) <;> rfl) ((szNet_is H0 [.int .i64 (a0).1, v0_1] a0 1048576 ((rNet).rdk h0 k0_0) fit0 (by omega)).mono ?_)
  rintro w H1 ⟨k1, hw⟩
  have n1 := k1.nxt
  have gb0_1 := (k1.get H.nxt (by omega)).trans gb0_0
  have k0_1 := k0_0.trans k1
  rcases hw with rfl | ⟨q0, rfl, hq0⟩
  · simp (maxSteps := 4000000) (disch := omega) only [Zq, evO, vbox, wr, Zeq, if_true, if_false, Nat.reduceEqDiff, Nat.reduceAdd, Nat.reduceLeDiff, Nat.reduceSub, and_self, and_true, true_and, reduceIte, reduceCtorEq, eq_self, implies_true, forall_const, false_implies, imp_self, decide_true, decide_false, vbinB_ne, gb0_1, t1, t2, t3, t4, t22, t23]
  simp (maxSteps := 4000000) (disch := omega) only [Zq, evO, vbox, wr, Zeq, if_true, if_false, Nat.reduceEqDiff, Nat.reduceAdd, Nat.reduceLeDiff, Nat.reduceSub, and_self, and_true, true_and, reduceIte, reduceCtorEq, eq_self, implies_true, forall_const, false_implies, imp_self, decide_true, decide_false, vbinB_ne, gb0_1, t1, t2, t3, t4, t22, t23]
  have ht0 : (rNet).tot a0 ≤ 1048576 := by omega
  refine GO_call_eq (by (simp (maxSteps := 4000000) (disch := omega) only [Zq, evO, vbox, wr, Zeq, if_true, if_false, Nat.reduceEqDiff, Nat.reduceAdd, Nat.reduceLeDiff, Nat.reduceSub, and_self, and_true, true_and, reduceIte, reduceCtorEq, eq_self, implies_true, forall_const, false_implies, imp_self, decide_true, decide_false, t1, t2, t3, t4, t22, t23]) <;> rfl) ((szTripS_is H1 [v1] a1 q0 (((rSlc rTrip)).rdk h1 k0_1) fit1 (by omega)).mono ?_)
  rintro w H2 ⟨k2, hw⟩
  have n2 := k2.nxt
  have gb0_2 := (k2.get H.nxt (by omega)).trans gb0_1
  have k0_2 := k0_1.trans k2
  rcases hw with rfl | ⟨q1, rfl, hq1⟩
  · simp (maxSteps := 4000000) (disch := omega) only [Zq, evO, vbox, wr, Zeq, if_true, if_false, Nat.reduceEqDiff, Nat.reduceAdd, Nat.reduceLeDiff, Nat.reduceSub, and_self, and_true, true_and, reduceIte, reduceCtorEq, eq_self, implies_true, forall_const, false_implies, imp_self, decide_true, decide_false, vbinB_ne, gb0_2, t1, t2, t3, t4, t22, t23]
  simp (maxSteps := 4000000) (disch := omega) only [Zq, evO, vbox, wr, Zeq, if_true, if_false, Nat.reduceEqDiff, Nat.reduceAdd, Nat.reduceLeDiff, Nat.reduceSub, and_self, and_true, true_and, reduceIte, reduceCtorEq, eq_self, implies_true, forall_const, false_implies, imp_self, decide_true, decide_false, vbinB_ne, gb0_2, t1, t2, t3, t4, t22, t23]
  have ht1 : ((rSlc rTrip)).tot a1 ≤ 1048576 := by omega
  first | refine G_fix [1, 2, 3, 4, 32] ?_ | refine GO_fix [1, 2, 3, 4, 32] ?_ | refine cK_fix [1, 2, 3, 4, 32] ?_
  intro T hT
  simp only [fix_nil, fix_cons, Zq, evO, vbox, wr, Zeq, if_true, if_false, Nat.reduceEqDiff, Nat.reduceAdd, Nat.reduceLeDiff, Nat.reduceSub, and_self, and_true, true_and, reduceIte, reduceCtorEq, eq_self, implies_true, forall_const, false_implies, imp_self, decide_true, decide_false, t1, t2, t3, t4, t22, t23] at hT
  obtain ⟨t1, t2, t3, t4, t32⟩ := hT
  refine GO_call_eq (by (simp (maxSteps := 4000000) (disch := omega) only [Zq, evO, vbox, wr, Zeq, if_true, if_false, Nat.reduceEqDiff, Nat.reduceAdd, Nat.reduceLeDiff, Nat.reduceSub, and_self, and_true, true_and, reduceIte, reduceCtorEq, eq_self, implies_true, forall_const, false_implies, imp_self, decide_true, decide_false, t1, t2, t3, t4, t32]) <;> rfl) ((toNet_is H2 [.int .i64 (a0).1, v0_1] a0 ((rNet).rdk h0 k0_2) ht0).mono ?_)
  rintro _ H3 ⟨k3, csy1, Fy1, rfl, oy1_3, fy1⟩
  have n3 := k3.nxt
  have gb0_3 := (k3.get H.nxt (by omega)).trans gb0_2
  have k0_3 := k0_2.trans k3
  obtain ⟨vy1_1, rfl, _⟩ := net_rd (x0 := (a0).1) (x1 := (a0).2) ((rNet).ownrd oy1_3)
  simp only [net_val]
  simp (maxSteps := 4000000) (disch := omega) only [Zq, evO, vbox, wr, Zeq, if_true, if_false, Nat.reduceEqDiff, Nat.reduceAdd, Nat.reduceLeDiff, Nat.reduceSub, and_self, and_true, true_and, reduceIte, reduceCtorEq, eq_self, implies_true, forall_const, false_implies, imp_self, decide_true, decide_false, vbinB_ne, gb0_3, t1, t2, t3, t4, t32]
  refine GO_call_eq (by (simp (maxSteps := 4000000) (disch := omega) only [Zq, evO, vbox, wr, Zeq, if_true, if_false, Nat.reduceEqDiff, Nat.reduceAdd, Nat.reduceLeDiff, Nat.reduceSub, and_self, and_true, true_and, reduceIte, reduceCtorEq, eq_self, implies_true, forall_const, false_implies, imp_self, decide_true, decide_false, t1, t2, t3, t4, t32]) <;> rfl) ((toTripS_is H3 [v1] a1 (((rSlc rTrip)).rdk h1 k0_3) ht1).mono ?_)
  rintro _ H4 ⟨k4, csy2, Fy2, rfl, oy2_4, fy2⟩
  have n4 := k4.nxt
  have gb0_4 := (k4.get H.nxt (by omega)).trans gb0_3
  have k0_4 := k0_3.trans k4
  have oy1_4 := (rNet).ownKeep oy1_3 k4
  obtain ⟨vy2, rfl⟩ := slc_one (((rSlc rTrip)).ownrd oy2_4)
  simp only [slc_val]
  simp (maxSteps := 4000000) (disch := omega) only [Zq, evO, vbox, wr, Zeq, if_true, if_false, Nat.reduceEqDiff, Nat.reduceAdd, Nat.reduceLeDiff, Nat.reduceSub, and_self, and_true, true_and, reduceIte, reduceCtorEq, eq_self, implies_true, forall_const, false_implies, imp_self, decide_true, decide_false, vbinB_ne, gb0_4, t1, t2, t3, t4, t32]
  refine GO_call_eq (by (simp (maxSteps := 4000000) (disch := omega) only [Zq, evO, vbox, wr, Zeq, if_true, if_false, Nat.reduceEqDiff, Nat.reduceAdd, Nat.reduceLeDiff, Nat.reduceSub, and_self, and_true, true_and, reduceIte, reduceCtorEq, eq_self, implies_true, forall_const, false_implies, imp_self, decide_true, decide_false, t1, t2, t3, t4, t32]) <;> rfl) ((toIntS_is H4 [v2] a2 (((rSlc rInt)).rdk h2 k0_4) ht2).mono ?_)
  rintro _ H5 ⟨k5, csy3, Fy3, rfl, oy3_5, fy3⟩
  have n5 := k5.nxt
  have gb0_5 := (k5.get H.nxt (by omega)).trans gb0_4
  have k0_5 := k0_4.trans k5
  have oy1_5 := (rNet).ownKeep oy1_4 k5
  have oy2_5 := ((rSlc rTrip)).ownKeep oy2_4 k5
  obtain ⟨vy3, rfl⟩ := slc_one (((rSlc rInt)).ownrd oy3_5)
  simp only [slc_val]
  simp (maxSteps := 4000000) (disch := omega) only [Zq, evO, vbox, wr, Zeq, if_true, if_false, Nat.reduceEqDiff, Nat.reduceAdd, Nat.reduceLeDiff, Nat.reduceSub, and_self, and_true, true_and, reduceIte, reduceCtorEq, eq_self, implies_true, forall_const, false_implies, imp_self, decide_true, decide_false, vbinB_ne, gb0_5, t1, t2, t3, t4, t32]
  have hR0 : (rSlc rInt).tot (noOr (dayOk a0.1 a0.2 a1 a2) (onL a0.2 a1 a2 a3)) ≤ 300 := on_len _ _ _ _ _
  refine GO_call_eq (by (simp (maxSteps := 4000000) (disch := omega) only [Zq, evO, vbox, wr, Zeq, if_true, if_false, Nat.reduceEqDiff, Nat.reduceAdd, Nat.reduceLeDiff, Nat.reduceSub, and_self, and_true, true_and, reduceIte, reduceCtorEq, eq_self, implies_true, forall_const, false_implies, imp_self, decide_true, decide_false, t1, t2, t3, t4, t32]) <;> rfl) ((own_law (r_spec_OnEdges (net_law ((rNet).ownrd oy1_5) ht0).1 (net_law ((rNet).ownrd oy1_5) ht0).2 (((rSlc rTrip)).ownrd oy2_5) ht1 (((rSlc rInt)).ownrd oy3_5) (tot_len ht2) a3)).mono ?_)
  rintro _ H6 ⟨k6, csr40, Fr40, rfl, or40_6, fr40⟩
  have n6 := k6.nxt
  have gb0_6 := (k6.get H.nxt (by omega)).trans gb0_5
  have k0_6 := k0_5.trans k6
  have oy1_6 := (rNet).ownKeep oy1_5 k6
  have oy2_6 := ((rSlc rTrip)).ownKeep oy2_5 k6
  have oy3_6 := ((rSlc rInt)).ownKeep oy3_5 k6
  obtain ⟨vr40, rfl⟩ := slc_one (((rSlc rInt)).ownrd or40_6)
  simp only [slc_val]
  simp (maxSteps := 4000000) (disch := omega) only [Zq, evO, vbox, wr, Zeq, if_true, if_false, Nat.reduceEqDiff, Nat.reduceAdd, Nat.reduceLeDiff, Nat.reduceSub, and_self, and_true, true_and, reduceIte, reduceCtorEq, eq_self, implies_true, forall_const, false_implies, imp_self, decide_true, decide_false, vbinB_ne, gb0_6, t1, t2, t3, t4, t32]
  first | refine G_fix [1, 2, 3, 4, 10, 40] ?_ | refine GO_fix [1, 2, 3, 4, 10, 40] ?_ | refine cK_fix [1, 2, 3, 4, 10, 40] ?_
  intro T hT
  simp only [fix_nil, fix_cons, Zq, evO, vbox, wr, Zeq, if_true, if_false, Nat.reduceEqDiff, Nat.reduceAdd, Nat.reduceLeDiff, Nat.reduceSub, and_self, and_true, true_and, reduceIte, reduceCtorEq, eq_self, implies_true, forall_const, false_implies, imp_self, decide_true, decide_false, t1, t2, t3, t4, t32] at hT
  obtain ⟨t1, t2, t3, t4, t10, t40⟩ := hT
  refine GO_call_eq (by (simp (maxSteps := 4000000) (disch := omega) only [Zq, evO, vbox, wr, Zeq, if_true, if_false, Nat.reduceEqDiff, Nat.reduceAdd, Nat.reduceLeDiff, Nat.reduceSub, and_self, and_true, true_and, reduceIte, reduceCtorEq, eq_self, implies_true, forall_const, false_implies, imp_self, decide_true, decide_false, t1, t2, t3, t4, t10, t40]) <;> rfl) ((toNet_is H6 [.int .i64 (a0).1, v0_1] a0 ((rNet).rdk h0 k0_6) ht0).mono ?_)
  rintro _ H7 ⟨k7, csy5, Fy5, rfl, oy5_7, fy5⟩
  have n7 := k7.nxt
  have gb0_7 := (k7.get H.nxt (by omega)).trans gb0_6
  have k0_7 := k0_6.trans k7
  have or40_7 := ((rSlc rInt)).ownKeep or40_6 k7
  obtain ⟨vy5_1, rfl, _⟩ := net_rd (x0 := (a0).1) (x1 := (a0).2) ((rNet).ownrd oy5_7)
  simp only [net_val]
  simp (maxSteps := 4000000) (disch := omega) only [Zq, evO, vbox, wr, Zeq, if_true, if_false, Nat.reduceEqDiff, Nat.reduceAdd, Nat.reduceLeDiff, Nat.reduceSub, and_self, and_true, true_and, reduceIte, reduceCtorEq, eq_self, implies_true, forall_const, false_implies, imp_self, decide_true, decide_false, vbinB_ne, gb0_7, t1, t2, t3, t4, t10, t40]
  generalize hG8 : ((H7.push [.int .i64 0, .slice none 0 0]).set H7.nxt [.int .i64 (a0).1, vy5_1]) = H8
  have k8 : Keep H7 H8 := by rw [← hG8]; repeat' (first | exact Keep.refl _ | assumption | refine Keep.push' ?_ | refine Keep.set' ?_ ?_ | refine Keep.moved' ?_ ?_ | omega)
  have gx6_8 : H8.get H7.nxt = some (.own [.int .i64 (a0).1, vy5_1]) := by rw [← hG8]; simp (maxSteps := 4000000) (disch := omega) only [Zq, evO, vbox, wr, Zeq, if_true, if_false, Nat.reduceEqDiff, Nat.reduceAdd, Nat.reduceLeDiff, Nat.reduceSub, and_self, and_true, true_and, reduceIte, reduceCtorEq, eq_self, implies_true, forall_const, false_implies, imp_self, decide_true, decide_false]
  have nn8 : H7.nxt + 1 = H8.nxt := by rw [← hG8]; simp only [Zbh, Zbg]
  have n8 := k8.nxt
  have gb0_8 := (k8.get H.nxt (by omega)).trans gb0_7
  have k0_8 := k0_7.trans k8
  have or40_8 := ((rSlc rInt)).ownKeep or40_7 k8
  have oy5_8 := (rNet).ownKeep oy5_7 k8
  try simp (maxSteps := 4000000) (disch := omega) only [Zq, evO, vbox, wr, Zeq, if_true, if_false, Nat.reduceEqDiff, Nat.reduceAdd, Nat.reduceLeDiff, Nat.reduceSub, and_self, and_true, true_and, reduceIte, reduceCtorEq, eq_self, implies_true, forall_const, false_implies, imp_self, decide_true, decide_false, vbinB_ne, gb0_8, gx6_8, t1, t2, t3, t4, t10, t40]
  refine GO_call_eq (by (simp (maxSteps := 4000000) (disch := omega) only [Zq, evO, vbox, wr, Zeq, if_true, if_false, Nat.reduceEqDiff, Nat.reduceAdd, Nat.reduceLeDiff, Nat.reduceSub, and_self, and_true, true_and, reduceIte, reduceCtorEq, eq_self, implies_true, forall_const, false_implies, imp_self, decide_true, decide_false, t1, t2, t3, t4, t10, t40]) <;> rfl) ((toTripS_is H8 [v1] a1 (((rSlc rTrip)).rdk h1 k0_8) ht1).mono ?_)
  rintro _ H9 ⟨k9, csy7, Fy7, rfl, oy7_9, fy7⟩
  have n9 := k9.nxt
  have gb0_9 := (k9.get H.nxt (by omega)).trans gb0_8
  have gx6_9 := (k9.get H7.nxt (by omega)).trans gx6_8
  have k0_9 := k0_8.trans k9
  have or40_9 := ((rSlc rInt)).ownKeep or40_8 k9
  have oy5_9 := (rNet).ownKeep oy5_8 k9
  obtain ⟨vy7, rfl⟩ := slc_one (((rSlc rTrip)).ownrd oy7_9)
  simp only [slc_val]
  simp (maxSteps := 4000000) (disch := omega) only [Zq, evO, vbox, wr, Zeq, if_true, if_false, Nat.reduceEqDiff, Nat.reduceAdd, Nat.reduceLeDiff, Nat.reduceSub, and_self, and_true, true_and, reduceIte, reduceCtorEq, eq_self, implies_true, forall_const, false_implies, imp_self, decide_true, decide_false, vbinB_ne, gb0_9, gx6_9, t1, t2, t3, t4, t10, t40]
  refine GO_call_eq (by (simp (maxSteps := 4000000) (disch := omega) only [Zq, evO, vbox, wr, Zeq, if_true, if_false, Nat.reduceEqDiff, Nat.reduceAdd, Nat.reduceLeDiff, Nat.reduceSub, and_self, and_true, true_and, reduceIte, reduceCtorEq, eq_self, implies_true, forall_const, false_implies, imp_self, decide_true, decide_false, t1, t2, t3, t4, t10, t40]) <;> rfl) ((toIntS_is H9 [v2] a2 (((rSlc rInt)).rdk h2 k0_9) ht2).mono ?_)
  rintro _ H10 ⟨k10, csy8, Fy8, rfl, oy8_10, fy8⟩
  have n10 := k10.nxt
  have gb0_10 := (k10.get H.nxt (by omega)).trans gb0_9
  have gx6_10 := (k10.get H7.nxt (by omega)).trans gx6_9
  have k0_10 := k0_9.trans k10
  have or40_10 := ((rSlc rInt)).ownKeep or40_9 k10
  have oy5_10 := (rNet).ownKeep oy5_9 k10
  have oy7_10 := ((rSlc rTrip)).ownKeep oy7_9 k10
  obtain ⟨vy8, rfl⟩ := slc_one (((rSlc rInt)).ownrd oy8_10)
  simp only [slc_val]
  simp (maxSteps := 4000000) (disch := omega) only [Zq, evO, vbox, wr, Zeq, if_true, if_false, Nat.reduceEqDiff, Nat.reduceAdd, Nat.reduceLeDiff, Nat.reduceSub, and_self, and_true, true_and, reduceIte, reduceCtorEq, eq_self, implies_true, forall_const, false_implies, imp_self, decide_true, decide_false, vbinB_ne, gb0_10, gx6_10, t1, t2, t3, t4, t10, t40]
  first | refine G_fix [1, 2, 3, 4, 10, 11, 12, 13, 46, 47, 48, 49] ?_ | refine GO_fix [1, 2, 3, 4, 10, 11, 12, 13, 46, 47, 48, 49] ?_ | refine cK_fix [1, 2, 3, 4, 10, 11, 12, 13, 46, 47, 48, 49] ?_
  intro T hT
  simp only [fix_nil, fix_cons, Zq, evO, vbox, wr, Zeq, if_true, if_false, Nat.reduceEqDiff, Nat.reduceAdd, Nat.reduceLeDiff, Nat.reduceSub, and_self, and_true, true_and, reduceIte, reduceCtorEq, eq_self, implies_true, forall_const, false_implies, imp_self, decide_true, decide_false, t1, t2, t3, t4, t10, t40] at hT
  obtain ⟨t1, t2, t3, t4, t10, t11, t12, t13, t46, t47, t48, t49⟩ := hT
  refine GO_call_eq (by (simp (maxSteps := 4000000) (disch := omega) only [Zq, evO, vbox, wr, Zeq, if_true, if_false, Nat.reduceEqDiff, Nat.reduceAdd, Nat.reduceLeDiff, Nat.reduceSub, and_self, and_true, true_and, reduceIte, reduceCtorEq, eq_self, implies_true, forall_const, false_implies, imp_self, decide_true, decide_false, t1, t2, t3, t4, t10, t11, t12, t13, t46, t47, t48, t49]) <;> rfl) ((own_law (r_impl_OnEdges (net_law ((rNet).ownrd oy5_10) ht0).1 (net_law ((rNet).ownrd oy5_10) ht0).2 (((rSlc rTrip)).ownrd oy7_10) ht1 (((rSlc rInt)).ownrd oy8_10) (tot_len ht2) a3)).mono ?_)
  rintro _ H11 ⟨k11, csr90, Fr90, rfl, or90_11, fr90⟩
  have n11 := k11.nxt
  have gb0_11 := (k11.get H.nxt (by omega)).trans gb0_10
  have gx6_11 := (k11.get H7.nxt (by omega)).trans gx6_10
  have k0_11 := k0_10.trans k11
  have or40_11 := ((rSlc rInt)).ownKeep or40_10 k11
  have oy5_11 := (rNet).ownKeep oy5_10 k11
  have oy7_11 := ((rSlc rTrip)).ownKeep oy7_10 k11
  have oy8_11 := ((rSlc rInt)).ownKeep oy8_10 k11
  obtain ⟨vr90, rfl⟩ := slc_one (((rSlc rInt)).ownrd or90_11)
  simp only [slc_val]
  simp (maxSteps := 4000000) (disch := omega) only [Zq, evO, vbox, wr, Zeq, if_true, if_false, Nat.reduceEqDiff, Nat.reduceAdd, Nat.reduceLeDiff, Nat.reduceSub, and_self, and_true, true_and, reduceIte, reduceCtorEq, eq_self, implies_true, forall_const, false_implies, imp_self, decide_true, decide_false, vbinB_ne, gb0_11, gx6_11, t1, t2, t3, t4, t10, t11, t12, t13, t46, t47, t48, t49]
  refine GO_call_eq (by (simp (maxSteps := 4000000) (disch := omega) only [Zq, evO, vbox, wr, Zeq, if_true, if_false, Nat.reduceEqDiff, Nat.reduceAdd, Nat.reduceLeDiff, Nat.reduceSub, and_self, and_true, true_and, reduceIte, reduceCtorEq, eq_self, implies_true, forall_const, false_implies, imp_self, decide_true, decide_false, t1, t2, t3, t4, t10, t11, t12, t13, t46, t47, t48, t49]) <;> rfl) ((eqIntS_is H11 [vr90] [vr40] ((noOr (dayOk a0.1 a0.2 a1 a2) (onL a0.2 a1 a2 a3))) (((rSlc rInt)).ownrd or90_11) (((rSlc rInt)).ownrd or40_11) (by omega)).mono ?_)
  rintro _ H12 ⟨k12, rfl⟩
  have n12 := k12.nxt
  have gb0_12 := (k12.get H.nxt (by omega)).trans gb0_11
  have gx6_12 := (k12.get H7.nxt (by omega)).trans gx6_11
  have k0_12 := k0_11.trans k12
  have or40_12 := ((rSlc rInt)).ownKeep or40_11 k12
  have oy5_12 := (rNet).ownKeep oy5_11 k12
  have oy7_12 := ((rSlc rTrip)).ownKeep oy7_11 k12
  have oy8_12 := ((rSlc rInt)).ownKeep oy8_11 k12
  have or90_12 := ((rSlc rInt)).ownKeep or90_11 k12
  simp (maxSteps := 4000000) (disch := omega) only [Zq, evO, vbox, wr, Zeq, if_true, if_false, Nat.reduceEqDiff, Nat.reduceAdd, Nat.reduceLeDiff, Nat.reduceSub, and_self, and_true, true_and, reduceIte, reduceCtorEq, eq_self, implies_true, forall_const, false_implies, imp_self, decide_true, decide_false, vbinB_ne, gb0_12, gx6_12, t1, t2, t3, t4, t10, t11, t12, t13, t46, t47, t48, t49]
  simp (maxSteps := 4000000) (disch := omega) only [ZD, Zio, Zip, pre_, beq_self_eq_true, Nat.reduceBEq, Zq, evO, vbox, wr, Zeq, if_true, if_false, Nat.reduceEqDiff, Nat.reduceAdd, Nat.reduceLeDiff, Nat.reduceSub, and_self, and_true, true_and, reduceIte, reduceCtorEq, eq_self, implies_true, forall_const, false_implies, imp_self, decide_true, decide_false, G_dreg, vbinB_ne, gb0_12, gx6_12, t1, t2, t3, t4, t10, t11, t12, t13, t46, t47, t48, t49]
  refine GD_call_eq (by (simp (maxSteps := 4000000) (disch := omega) only [Zq, evO, vbox, wr, Zeq, if_true, if_false, Nat.reduceEqDiff, Nat.reduceAdd, Nat.reduceLeDiff, Nat.reduceSub, and_self, and_true, true_and, reduceIte, reduceCtorEq, eq_self, implies_true, forall_const, false_implies, imp_self, decide_true, decide_false, t1, t2, t3, t4, t10, t11, t12, t13, t46, t47, t48, t49]) <;> rfl) ((toNet_is H12 [.int .i64 (a0).1, v0_1] a0 ((rNet).rdk h0 k0_12) ht0).mono ?_)
  rintro _ H13 ⟨k13, csy10, Fy10, rfl, oy10_13, fy10⟩
  have n13 := k13.nxt
  have gb0_13 := (k13.get H.nxt (by omega)).trans gb0_12
  have gx6_13 := (k13.get H7.nxt (by omega)).trans gx6_12
  have k0_13 := k0_12.trans k13
  have or40_13 := ((rSlc rInt)).ownKeep or40_12 k13
  have oy5_13 := (rNet).ownKeep oy5_12 k13
  have oy7_13 := ((rSlc rTrip)).ownKeep oy7_12 k13
  have oy8_13 := ((rSlc rInt)).ownKeep oy8_12 k13
  have or90_13 := ((rSlc rInt)).ownKeep or90_12 k13
  obtain ⟨vy10_1, rfl, _⟩ := net_rd (x0 := (a0).1) (x1 := (a0).2) ((rNet).ownrd oy10_13)
  simp only [net_val]
  simp (maxSteps := 4000000) (disch := omega) only [ZD, Zio, Zip, pre_, beq_self_eq_true, Nat.reduceBEq, Zq, evO, vbox, wr, Zeq, if_true, if_false, Nat.reduceEqDiff, Nat.reduceAdd, Nat.reduceLeDiff, Nat.reduceSub, and_self, and_true, true_and, reduceIte, reduceCtorEq, eq_self, implies_true, forall_const, false_implies, imp_self, decide_true, decide_false, vbinB_ne, gb0_13, gb0_12, gx6_13, gx6_12, t1, t2, t3, t4, t10, t11, t12, t13, t46, t47, t48, t49]
  refine GD_call_eq (by (simp (maxSteps := 4000000) (disch := omega) only [Zq, evO, vbox, wr, Zeq, if_true, if_false, Nat.reduceEqDiff, Nat.reduceAdd, Nat.reduceLeDiff, Nat.reduceSub, and_self, and_true, true_and, reduceIte, reduceCtorEq, eq_self, implies_true, forall_const, false_implies, imp_self, decide_true, decide_false, t1, t2, t3, t4, t10, t11, t12, t13, t46, t47, t48, t49]) <;> rfl) ((eqNet_is H13 [.int .i64 (a0).1, vy5_1] [.int .i64 (a0).1, vy10_1] (a0) ((rNet).ownrd oy5_13) ((rNet).ownrd oy10_13) (by omega)).mono ?_)
  rintro _ H14 ⟨k14, rfl⟩
  have n14 := k14.nxt
  have gb0_14 := (k14.get H.nxt (by omega)).trans gb0_13
  have gx6_14 := (k14.get H7.nxt (by omega)).trans gx6_13
  have k0_14 := k0_13.trans k14
  have or40_14 := ((rSlc rInt)).ownKeep or40_13 k14
  have oy5_14 := (rNet).ownKeep oy5_13 k14
  have oy7_14 := ((rSlc rTrip)).ownKeep oy7_13 k14
  have oy8_14 := ((rSlc rInt)).ownKeep oy8_13 k14
  have or90_14 := ((rSlc rInt)).ownKeep or90_13 k14
  have oy10_14 := (rNet).ownKeep oy10_13 k14
  simp (maxSteps := 4000000) (disch := omega) only [ZD, Zio, Zip, pre_, beq_self_eq_true, Nat.reduceBEq, Zq, evO, vbox, wr, Zeq, if_true, if_false, Nat.reduceEqDiff, Nat.reduceAdd, Nat.reduceLeDiff, Nat.reduceSub, and_self, and_true, true_and, reduceIte, reduceCtorEq, eq_self, implies_true, forall_const, false_implies, imp_self, decide_true, decide_false, vbinB_ne, gb0_14, gb0_12, gb0_13, gx6_14, gx6_12, gx6_13, t1, t2, t3, t4, t10, t11, t12, t13, t46, t47, t48, t49]
  first | with_reducible refine And.intro (by repeat' (first | exact trivial | apply And.intro | omega | exact k13.get _ (by omega) | exact k14.get _ (by omega) | (simp only [Zbi, push_get']; split <;> first | omega | rfl))) ?_ | skip
  try simp (maxSteps := 4000000) (disch := omega) only [Zq, evO, vbox, wr, Zeq, if_true, if_false, Nat.reduceEqDiff, Nat.reduceAdd, Nat.reduceLeDiff, Nat.reduceSub, and_self, and_true, true_and, reduceIte, reduceCtorEq, eq_self, implies_true, forall_const, false_implies, imp_self, decide_true, decide_false, vbinB_ne, gb0_14, gx6_14, t1, t2, t3, t4, t10, t11, t12, t13, t46, t47, t48, t49]
  first | refine G_fix [1, 2, 3, 4, 10, 11, 12, 13, 14, 60, 61] ?_ | refine GO_fix [1, 2, 3, 4, 10, 11, 12, 13, 14, 60, 61] ?_ | refine cK_fix [1, 2, 3, 4, 10, 11, 12, 13, 14, 60, 61] ?_
  intro T hT
  simp only [fix_nil, fix_cons, Zq, evO, vbox, wr, Zeq, if_true, if_false, Nat.reduceEqDiff, Nat.reduceAdd, Nat.reduceLeDiff, Nat.reduceSub, and_self, and_true, true_and, reduceIte, reduceCtorEq, eq_self, implies_true, forall_const, false_implies, imp_self, decide_true, decide_false, t1, t2, t3, t4, t10, t11, t12, t13, t46, t47, t48, t49] at hT
  obtain ⟨t1, t2, t3, t4, t10, t11, t12, t13, t14, t60, t61⟩ := hT
  refine GO_call_eq (by (simp (maxSteps := 4000000) (disch := omega) only [Zq, evO, vbox, wr, Zeq, if_true, if_false, Nat.reduceEqDiff, Nat.reduceAdd, Nat.reduceLeDiff, Nat.reduceSub, and_self, and_true, true_and, reduceIte, reduceCtorEq, eq_self, implies_true, forall_const, false_implies, imp_self, decide_true, decide_false, t1, t2, t3, t4, t10, t11, t12, t13, t14, t60, t61]) <;> rfl) ((toTripS_is H14 [v1] a1 (((rSlc rTrip)).rdk h1 k0_14) ht1).mono ?_)
  rintro _ H15 ⟨k15, csy11, Fy11, rfl, oy11_15, fy11⟩
  have n15 := k15.nxt
  have gb0_15 := (k15.get H.nxt (by omega)).trans gb0_14
  have gx6_15 := (k15.get H7.nxt (by omega)).trans gx6_14
  have k0_15 := k0_14.trans k15
  have or40_15 := ((rSlc rInt)).ownKeep or40_14 k15
  have oy5_15 := (rNet).ownKeep oy5_14 k15
  have oy7_15 := ((rSlc rTrip)).ownKeep oy7_14 k15
  have oy8_15 := ((rSlc rInt)).ownKeep oy8_14 k15
  have or90_15 := ((rSlc rInt)).ownKeep or90_14 k15
  obtain ⟨vy11, rfl⟩ := slc_one (((rSlc rTrip)).ownrd oy11_15)
  simp only [slc_val]
  simp (maxSteps := 4000000) (disch := omega) only [Zq, evO, vbox, wr, Zeq, if_true, if_false, Nat.reduceEqDiff, Nat.reduceAdd, Nat.reduceLeDiff, Nat.reduceSub, and_self, and_true, true_and, reduceIte, reduceCtorEq, eq_self, implies_true, forall_const, false_implies, imp_self, decide_true, decide_false, vbinB_ne, gb0_15, gx6_15, t1, t2, t3, t4, t10, t11, t12, t13, t14, t60, t61]
  refine GO_call_eq (by (simp (maxSteps := 4000000) (disch := omega) only [Zq, evO, vbox, wr, Zeq, if_true, if_false, Nat.reduceEqDiff, Nat.reduceAdd, Nat.reduceLeDiff, Nat.reduceSub, and_self, and_true, true_and, reduceIte, reduceCtorEq, eq_self, implies_true, forall_const, false_implies, imp_self, decide_true, decide_false, t1, t2, t3, t4, t10, t11, t12, t13, t14, t60, t61]) <;> rfl) ((eqTripS_is H15 [vy7] [vy11] (a1) (((rSlc rTrip)).ownrd oy7_15) (((rSlc rTrip)).ownrd oy11_15) (by omega)).mono ?_)
  rintro _ H16 ⟨k16, rfl⟩
  have n16 := k16.nxt
  have gb0_16 := (k16.get H.nxt (by omega)).trans gb0_15
  have gx6_16 := (k16.get H7.nxt (by omega)).trans gx6_15
  have k0_16 := k0_15.trans k16
  have or40_16 := ((rSlc rInt)).ownKeep or40_15 k16
  have oy5_16 := (rNet).ownKeep oy5_15 k16
  have oy7_16 := ((rSlc rTrip)).ownKeep oy7_15 k16
  have oy8_16 := ((rSlc rInt)).ownKeep oy8_15 k16
  have or90_16 := ((rSlc rInt)).ownKeep or90_15 k16
  have oy11_16 := ((rSlc rTrip)).ownKeep oy11_15 k16
  simp (maxSteps := 4000000) (disch := omega) only [Zq, evO, vbox, wr, Zeq, if_true, if_false, Nat.reduceEqDiff, Nat.reduceAdd, Nat.reduceLeDiff, Nat.reduceSub, and_self, and_true, true_and, reduceIte, reduceCtorEq, eq_self, implies_true, forall_const, false_implies, imp_self, decide_true, decide_false, vbinB_ne, gb0_16, gx6_16, t1, t2, t3, t4, t10, t11, t12, t13, t14, t60, t61]
  refine GO_call_eq (by (simp (maxSteps := 4000000) (disch := omega) only [Zq, evO, vbox, wr, Zeq, if_true, if_false, Nat.reduceEqDiff, Nat.reduceAdd, Nat.reduceLeDiff, Nat.reduceSub, and_self, and_true, true_and, reduceIte, reduceCtorEq, eq_self, implies_true, forall_const, false_implies, imp_self, decide_true, decide_false, t1, t2, t3, t4, t10, t11, t12, t13, t14, t60, t61]) <;> rfl) ((toIntS_is H16 [v2] a2 (((rSlc rInt)).rdk h2 k0_16) ht2).mono ?_)
  rintro _ H17 ⟨k17, csy12, Fy12, rfl, oy12_17, fy12⟩
  have n17 := k17.nxt
  have gb0_17 := (k17.get H.nxt (by omega)).trans gb0_16
  have gx6_17 := (k17.get H7.nxt (by omega)).trans gx6_16
  have k0_17 := k0_16.trans k17
  have or40_17 := ((rSlc rInt)).ownKeep or40_16 k17
  have oy5_17 := (rNet).ownKeep oy5_16 k17
  have oy7_17 := ((rSlc rTrip)).ownKeep oy7_16 k17
  have oy8_17 := ((rSlc rInt)).ownKeep oy8_16 k17
  have or90_17 := ((rSlc rInt)).ownKeep or90_16 k17
  obtain ⟨vy12, rfl⟩ := slc_one (((rSlc rInt)).ownrd oy12_17)
  simp only [slc_val]
  simp (maxSteps := 4000000) (disch := omega) only [Zq, evO, vbox, wr, Zeq, if_true, if_false, Nat.reduceEqDiff, Nat.reduceAdd, Nat.reduceLeDiff, Nat.reduceSub, and_self, and_true, true_and, reduceIte, reduceCtorEq, eq_self, implies_true, forall_const, false_implies, imp_self, decide_true, decide_false, vbinB_ne, gb0_17, gx6_17, t1, t2, t3, t4, t10, t11, t12, t13, t14, t60, t61]
  refine GO_call_eq (by (simp (maxSteps := 4000000) (disch := omega) only [Zq, evO, vbox, wr, Zeq, if_true, if_false, Nat.reduceEqDiff, Nat.reduceAdd, Nat.reduceLeDiff, Nat.reduceSub, and_self, and_true, true_and, reduceIte, reduceCtorEq, eq_self, implies_true, forall_const, false_implies, imp_self, decide_true, decide_false, t1, t2, t3, t4, t10, t11, t12, t13, t14, t60, t61]) <;> rfl) ((eqIntS_is H17 [vy8] [vy12] (a2) (((rSlc rInt)).ownrd oy8_17) (((rSlc rInt)).ownrd oy12_17) (by omega)).mono ?_)
  rintro _ H18 ⟨k18, rfl⟩
  have n18 := k18.nxt
  have gb0_18 := (k18.get H.nxt (by omega)).trans gb0_17
  have gx6_18 := (k18.get H7.nxt (by omega)).trans gx6_17
  have k0_18 := k0_17.trans k18
  have or40_18 := ((rSlc rInt)).ownKeep or40_17 k18
  have oy5_18 := (rNet).ownKeep oy5_17 k18
  have oy7_18 := ((rSlc rTrip)).ownKeep oy7_17 k18
  have oy8_18 := ((rSlc rInt)).ownKeep oy8_17 k18
  have or90_18 := ((rSlc rInt)).ownKeep or90_17 k18
  have oy12_18 := ((rSlc rInt)).ownKeep oy12_17 k18
  simp (maxSteps := 4000000) (disch := omega) only [Zq, evO, vbox, wr, Zeq, if_true, if_false, Nat.reduceEqDiff, Nat.reduceAdd, Nat.reduceLeDiff, Nat.reduceSub, and_self, and_true, true_and, reduceIte, reduceCtorEq, eq_self, implies_true, forall_const, false_implies, imp_self, decide_true, decide_false, vbinB_ne, gb0_18, gx6_18, t1, t2, t3, t4, t10, t11, t12, t13, t14, t60, t61]
  first | refine G_fix [1, 2, 3, 4, 10, 12, 13, 14, 70, 71] ?_ | refine GO_fix [1, 2, 3, 4, 10, 12, 13, 14, 70, 71] ?_ | refine cK_fix [1, 2, 3, 4, 10, 12, 13, 14, 70, 71] ?_
  intro T hT
  simp only [fix_nil, fix_cons, Zq, evO, vbox, wr, Zeq, if_true, if_false, Nat.reduceEqDiff, Nat.reduceAdd, Nat.reduceLeDiff, Nat.reduceSub, and_self, and_true, true_and, reduceIte, reduceCtorEq, eq_self, implies_true, forall_const, false_implies, imp_self, decide_true, decide_false, t1, t2, t3, t4, t10, t11, t12, t13, t14, t60, t61] at hT
  obtain ⟨t1, t2, t3, t4, t10, t12, t13, t14, t70, t71⟩ := hT
  have hm19 := mar_Net (a0) (1)
  refine GO_call_eq (by (simp (maxSteps := 4000000) (disch := omega) only [Zq, evO, vbox, wr, Zeq, if_true, if_false, Nat.reduceEqDiff, Nat.reduceAdd, Nat.reduceLeDiff, Nat.reduceSub, and_self, and_true, true_and, reduceIte, reduceCtorEq, eq_self, implies_true, forall_const, false_implies, imp_self, decide_true, decide_false, t1, t2, t3, t4, t10, t12, t13, t14, t70, t71]) <;> rfl) ((markNet_is H18 [.int .i64 (a0).1, vy5_1] (a0) Fy5 (1) oy5_18 fy5.1 (by omega)).mono ?_)
  rintro _ H19 ⟨c19, oy5_19, rfl⟩
  have n19 := c19.nxt
  have gb0_19 := (c19.get H.nxt (by omega) (fun hm => by have := fy5.2 _ hm; omega)).trans gb0_18
  have gx6_19 := (c19.get H7.nxt (by omega) (fun hm => by have := fy5.2 _ hm; omega)).trans gx6_18
  have k0_19 := c19.keep k0_18 (fun i hi => by have := fy5.2 i hi; omega)
  have or40_19 := ((rSlc rInt)).ownChg or40_18 c19 (fun i hi hm => by have := fr40.2 i hi; have := fy5.2 i hm; omega)
  have oy7_19 := ((rSlc rTrip)).ownChg oy7_18 c19 (fun i hi hm => by have := fy7.2 i hi; have := fy5.2 i hm; omega)
  have oy8_19 := ((rSlc rInt)).ownChg oy8_18 c19 (fun i hi hm => by have := fy8.2 i hi; have := fy5.2 i hm; omega)
  have or90_19 := ((rSlc rInt)).ownChg or90_18 c19 (fun i hi hm => by have := fr90.2 i hi; have := fy5.2 i hm; omega)
  simp (maxSteps := 4000000) (disch := omega) only [Zq, evO, vbox, wr, Zeq, if_true, if_false, Nat.reduceEqDiff, Nat.reduceAdd, Nat.reduceLeDiff, Nat.reduceSub, and_self, and_true, true_and, reduceIte, reduceCtorEq, eq_self, implies_true, forall_const, false_implies, imp_self, decide_true, decide_false, vbinB_ne, gb0_19, t1, t2, t3, t4, t10, t12, t13, t14, t70, t71]
  have hm20 := mar_le marB_Trip (a1) ((mNet (a0) (1)).2)
  refine GO_call_eq (by (simp (maxSteps := 4000000) (disch := omega) only [Zq, evO, vbox, wr, Zeq, if_true, if_false, Nat.reduceEqDiff, Nat.reduceAdd, Nat.reduceLeDiff, Nat.reduceSub, and_self, and_true, true_and, reduceIte, reduceCtorEq, eq_self, implies_true, forall_const, false_implies, imp_self, decide_true, decide_false, t1, t2, t3, t4, t10, t12, t13, t14, t70, t71]) <;> rfl) ((markTripS_is H19 [vy7] (a1) Fy7 ((mNet (a0) (1)).2) oy7_19 fy7.1 (by omega)).mono ?_)
  rintro _ H20 ⟨c20, oy7_20, rfl⟩
  have n20 := c20.nxt
  have gb0_20 := (c20.get H.nxt (by omega) (fun hm => by have := fy7.2 _ hm; omega)).trans gb0_19
  have k0_20 := c20.keep k0_19 (fun i hi => by have := fy7.2 i hi; omega)
  have or40_20 := ((rSlc rInt)).ownChg or40_19 c20 (fun i hi hm => by have := fr40.2 i hi; have := fy7.2 i hm; omega)
  have oy8_20 := ((rSlc rInt)).ownChg oy8_19 c20 (fun i hi hm => by have := fy8.2 i hi; have := fy7.2 i hm; omega)
  have or90_20 := ((rSlc rInt)).ownChg or90_19 c20 (fun i hi hm => by have := fr90.2 i hi; have := fy7.2 i hm; omega)
  simp (maxSteps := 4000000) (disch := omega) only [Zq, evO, vbox, wr, Zeq, if_true, if_false, Nat.reduceEqDiff, Nat.reduceAdd, Nat.reduceLeDiff, Nat.reduceSub, and_self, and_true, true_and, reduceIte, reduceCtorEq, eq_self, implies_true, forall_const, false_implies, imp_self, decide_true, decide_false, vbinB_ne, gb0_20, t1, t2, t3, t4, t10, t12, t13, t14, t70, t71]
  first | refine G_fix [1, 2, 3, 4, 10, 14, 76, 77] ?_ | refine GO_fix [1, 2, 3, 4, 10, 14, 76, 77] ?_ | refine cK_fix [1, 2, 3, 4, 10, 14, 76, 77] ?_
  intro T hT
  simp only [fix_nil, fix_cons, Zq, evO, vbox, wr, Zeq, if_true, if_false, Nat.reduceEqDiff, Nat.reduceAdd, Nat.reduceLeDiff, Nat.reduceSub, and_self, and_true, true_and, reduceIte, reduceCtorEq, eq_self, implies_true, forall_const, false_implies, imp_self, decide_true, decide_false, t1, t2, t3, t4, t10, t12, t13, t14, t70, t71] at hT
  obtain ⟨t1, t2, t3, t4, t10, t14, t76, t77⟩ := hT
  have hm21 := mar_le MarB.int (a2) (((rSlc rTrip).mar (a1) ((mNet (a0) (1)).2)).2)
  refine GO_call_eq (by (simp (maxSteps := 4000000) (disch := omega) only [Zq, evO, vbox, wr, Zeq, if_true, if_false, Nat.reduceEqDiff, Nat.reduceAdd, Nat.reduceLeDiff, Nat.reduceSub, and_self, and_true, true_and, reduceIte, reduceCtorEq, eq_self, implies_true, forall_const, false_implies, imp_self, decide_true, decide_false, t1, t2, t3, t4, t10, t14, t76, t77]) <;> rfl) ((markIntS_is H20 [vy8] (a2) Fy8 (((rSlc rTrip).mar (a1) ((mNet (a0) (1)).2)).2) oy8_20 fy8.1 (by omega)).mono ?_)
  rintro _ H21 ⟨c21, oy8_21, rfl⟩
  have n21 := c21.nxt
  have gb0_21 := (c21.get H.nxt (by omega) (fun hm => by have := fy8.2 _ hm; omega)).trans gb0_20
  have k0_21 := c21.keep k0_20 (fun i hi => by have := fy8.2 i hi; omega)
  have or40_21 := ((rSlc rInt)).ownChg or40_20 c21 (fun i hi hm => by have := fr40.2 i hi; have := fy8.2 i hm; omega)
  have or90_21 := ((rSlc rInt)).ownChg or90_20 c21 (fun i hi hm => by have := fr90.2 i hi; have := fy8.2 i hm; omega)
  simp (maxSteps := 4000000) (disch := omega) only [Zq, evO, vbox, wr, Zeq, if_true, if_false, Nat.reduceEqDiff, Nat.reduceAdd, Nat.reduceLeDiff, Nat.reduceSub, and_self, and_true, true_and, reduceIte, reduceCtorEq, eq_self, implies_true, forall_const, false_implies, imp_self, decide_true, decide_false, vbinB_ne, gb0_21, t1, t2, t3, t4, t10, t14, t76, t77]
  refine GO_call_eq (by (simp (maxSteps := 4000000) (disch := omega) only [Zq, evO, vbox, wr, Zeq, if_true, if_false, Nat.reduceEqDiff, Nat.reduceAdd, Nat.reduceLeDiff, Nat.reduceSub, and_self, and_true, true_and, reduceIte, reduceCtorEq, eq_self, implies_true, forall_const, false_implies, imp_self, decide_true, decide_false, t1, t2, t3, t4, t10, t14, t76, t77]) <;> rfl) ((eqIntS_is H21 [vr90] [vr40] ((noOr (dayOk a0.1 a0.2 a1 a2) (onL a0.2 a1 a2 a3))) (((rSlc rInt)).ownrd or90_21) (((rSlc rInt)).ownrd or40_21) (by omega)).mono ?_)
  rintro _ H22 ⟨k22, rfl⟩
  have n22 := k22.nxt
  have gb0_22 := (k22.get H.nxt (by omega)).trans gb0_21
  have k0_22 := k0_21.trans k22
  have or40_22 := ((rSlc rInt)).ownKeep or40_21 k22
  have or90_22 := ((rSlc rInt)).ownKeep or90_21 k22
  simp (maxSteps := 4000000) (disch := omega) only [Zq, evO, vbox, wr, Zeq, if_true, if_false, Nat.reduceEqDiff, Nat.reduceAdd, Nat.reduceLeDiff, Nat.reduceSub, and_self, and_true, true_and, reduceIte, reduceCtorEq, eq_self, implies_true, forall_const, false_implies, imp_self, decide_true, decide_false, vbinB_ne, gb0_22, t1, t2, t3, t4, t10, t14, t76, t77]
  first | refine G_fix [1, 2, 3, 4, 10, 14, 87, 88] ?_ | refine GO_fix [1, 2, 3, 4, 10, 14, 87, 88] ?_ | refine cK_fix [1, 2, 3, 4, 10, 14, 87, 88] ?_
  intro T hT
  simp only [fix_nil, fix_cons, Zq, evO, vbox, wr, Zeq, if_true, if_false, Nat.reduceEqDiff, Nat.reduceAdd, Nat.reduceLeDiff, Nat.reduceSub, and_self, and_true, true_and, reduceIte, reduceCtorEq, eq_self, implies_true, forall_const, false_implies, imp_self, decide_true, decide_false, t1, t2, t3, t4, t10, t14, t76, t77] at hT
  obtain ⟨t1, t2, t3, t4, t10, t14, t87, t88⟩ := hT
  have hm23 := mar_le MarB.int ((noOr (dayOk a0.1 a0.2 a1 a2) (onL a0.2 a1 a2 a3))) (1)
  refine GO_call_eq (by (simp (maxSteps := 4000000) (disch := omega) only [Zq, evO, vbox, wr, Zeq, if_true, if_false, Nat.reduceEqDiff, Nat.reduceAdd, Nat.reduceLeDiff, Nat.reduceSub, and_self, and_true, true_and, reduceIte, reduceCtorEq, eq_self, implies_true, forall_const, false_implies, imp_self, decide_true, decide_false, t1, t2, t3, t4, t10, t14, t87, t88]) <;> rfl) ((markIntS_is H22 [vr90] ((noOr (dayOk a0.1 a0.2 a1 a2) (onL a0.2 a1 a2 a3))) Fr90 (1) or90_22 fr90.1 (by omega)).mono ?_)
  rintro _ H23 ⟨c23, or90_23, rfl⟩
  have n23 := c23.nxt
  have gb0_23 := (c23.get H.nxt (by omega) (fun hm => by have := fr90.2 _ hm; omega)).trans gb0_22
  have k0_23 := c23.keep k0_22 (fun i hi => by have := fr90.2 i hi; omega)
  have or40_23 := ((rSlc rInt)).ownChg or40_22 c23 (fun i hi hm => by have := fr40.2 i hi; have := fr90.2 i hm; omega)
  simp (maxSteps := 4000000) (disch := omega) only [Zq, evO, vbox, wr, Zeq, if_true, if_false, Nat.reduceEqDiff, Nat.reduceAdd, Nat.reduceLeDiff, Nat.reduceSub, and_self, and_true, true_and, reduceIte, reduceCtorEq, eq_self, implies_true, forall_const, false_implies, imp_self, decide_true, decide_false, vbinB_ne, gb0_23, t1, t2, t3, t4, t10, t14, t87, t88]
  refine GO_call_eq (by (simp (maxSteps := 4000000) (disch := omega) only [Zq, evO, vbox, wr, Zeq, if_true, if_false, Nat.reduceEqDiff, Nat.reduceAdd, Nat.reduceLeDiff, Nat.reduceSub, and_self, and_true, true_and, reduceIte, reduceCtorEq, eq_self, implies_true, forall_const, false_implies, imp_self, decide_true, decide_false, t1, t2, t3, t4, t10, t14, t87, t88]) <;> rfl) ((heldIntS_is H23 [vr90] ((noOr (dayOk a0.1 a0.2 a1 a2) (onL a0.2 a1 a2 a3))) (1) (((rSlc rInt)).ownrd or90_23) (by omega)).mono ?_)
  rintro _ H24 ⟨k24, rfl⟩
  have n24 := k24.nxt
  have gb0_24 := (k24.get H.nxt (by omega)).trans gb0_23
  have k0_24 := k0_23.trans k24
  have or40_24 := ((rSlc rInt)).ownKeep or40_23 k24
  have or90_24 := ((rSlc rInt)).ownKeep or90_23 k24
  simp (maxSteps := 4000000) (disch := omega) only [Zq, evO, vbox, wr, Zeq, if_true, if_false, Nat.reduceEqDiff, Nat.reduceAdd, Nat.reduceLeDiff, Nat.reduceSub, and_self, and_true, true_and, reduceIte, reduceCtorEq, eq_self, implies_true, forall_const, false_implies, imp_self, decide_true, decide_false, vbinB_ne, gb0_24, t1, t2, t3, t4, t10, t14, t87, t88]
  first | refine G_fix [1, 2, 3, 10, 14, 16, 98] ?_ | refine GO_fix [1, 2, 3, 10, 14, 16, 98] ?_ | refine cK_fix [1, 2, 3, 10, 14, 16, 98] ?_
  intro T hT
  simp only [fix_nil, fix_cons, Zq, evO, vbox, wr, Zeq, if_true, if_false, Nat.reduceEqDiff, Nat.reduceAdd, Nat.reduceLeDiff, Nat.reduceSub, and_self, and_true, true_and, reduceIte, reduceCtorEq, eq_self, implies_true, forall_const, false_implies, imp_self, decide_true, decide_false, t1, t2, t3, t4, t10, t14, t87, t88] at hT
  obtain ⟨t1, t2, t3, t10, t14, t16, t98⟩ := hT
  refine GO_call_eq (by (simp (maxSteps := 4000000) (disch := omega) only [Zq, evO, vbox, wr, Zeq, if_true, if_false, Nat.reduceEqDiff, Nat.reduceAdd, Nat.reduceLeDiff, Nat.reduceSub, and_self, and_true, true_and, reduceIte, reduceCtorEq, eq_self, implies_true, forall_const, false_implies, imp_self, decide_true, decide_false, t1, t2, t3, t10, t14, t16, t98]) <;> rfl) ((toNet_is H24 [.int .i64 (a0).1, v0_1] a0 ((rNet).rdk h0 k0_24) ht0).mono ?_)
  rintro _ H25 ⟨k25, csy13, Fy13, rfl, oy13_25, fy13⟩
  have n25 := k25.nxt
  have gb0_25 := (k25.get H.nxt (by omega)).trans gb0_24
  have k0_25 := k0_24.trans k25
  have or40_25 := ((rSlc rInt)).ownKeep or40_24 k25
  have or90_25 := ((rSlc rInt)).ownKeep or90_24 k25
  obtain ⟨vy13_1, rfl, _⟩ := net_rd (x0 := (a0).1) (x1 := (a0).2) ((rNet).ownrd oy13_25)
  simp only [net_val]
  simp (maxSteps := 4000000) (disch := omega) only [Zq, evO, vbox, wr, Zeq, if_true, if_false, Nat.reduceEqDiff, Nat.reduceAdd, Nat.reduceLeDiff, Nat.reduceSub, and_self, and_true, true_and, reduceIte, reduceCtorEq, eq_self, implies_true, forall_const, false_implies, imp_self, decide_true, decide_false, vbinB_ne, gb0_25, t1, t2, t3, t10, t14, t16, t98]
  refine GO_call_eq (by (simp (maxSteps := 4000000) (disch := omega) only [Zq, evO, vbox, wr, Zeq, if_true, if_false, Nat.reduceEqDiff, Nat.reduceAdd, Nat.reduceLeDiff, Nat.reduceSub, and_self, and_true, true_and, reduceIte, reduceCtorEq, eq_self, implies_true, forall_const, false_implies, imp_self, decide_true, decide_false, t1, t2, t3, t10, t14, t16, t98]) <;> rfl) ((toTripS_is H25 [v1] a1 (((rSlc rTrip)).rdk h1 k0_25) ht1).mono ?_)
  rintro _ H26 ⟨k26, csy14, Fy14, rfl, oy14_26, fy14⟩
  have n26 := k26.nxt
  have gb0_26 := (k26.get H.nxt (by omega)).trans gb0_25
  have k0_26 := k0_25.trans k26
  have or40_26 := ((rSlc rInt)).ownKeep or40_25 k26
  have or90_26 := ((rSlc rInt)).ownKeep or90_25 k26
  have oy13_26 := (rNet).ownKeep oy13_25 k26
  obtain ⟨vy14, rfl⟩ := slc_one (((rSlc rTrip)).ownrd oy14_26)
  simp only [slc_val]
  simp (maxSteps := 4000000) (disch := omega) only [Zq, evO, vbox, wr, Zeq, if_true, if_false, Nat.reduceEqDiff, Nat.reduceAdd, Nat.reduceLeDiff, Nat.reduceSub, and_self, and_true, true_and, reduceIte, reduceCtorEq, eq_self, implies_true, forall_const, false_implies, imp_self, decide_true, decide_false, vbinB_ne, gb0_26, t1, t2, t3, t10, t14, t16, t98]
  refine GO_call_eq (by (simp (maxSteps := 4000000) (disch := omega) only [Zq, evO, vbox, wr, Zeq, if_true, if_false, Nat.reduceEqDiff, Nat.reduceAdd, Nat.reduceLeDiff, Nat.reduceSub, and_self, and_true, true_and, reduceIte, reduceCtorEq, eq_self, implies_true, forall_const, false_implies, imp_self, decide_true, decide_false, t1, t2, t3, t10, t14, t16, t98]) <;> rfl) ((toIntS_is H26 [v2] a2 (((rSlc rInt)).rdk h2 k0_26) ht2).mono ?_)
  rintro _ H27 ⟨k27, csy15, Fy15, rfl, oy15_27, fy15⟩
  have n27 := k27.nxt
  have gb0_27 := (k27.get H.nxt (by omega)).trans gb0_26
  have k0_27 := k0_26.trans k27
  have or40_27 := ((rSlc rInt)).ownKeep or40_26 k27
  have or90_27 := ((rSlc rInt)).ownKeep or90_26 k27
  have oy13_27 := (rNet).ownKeep oy13_26 k27
  have oy14_27 := ((rSlc rTrip)).ownKeep oy14_26 k27
  obtain ⟨vy15, rfl⟩ := slc_one (((rSlc rInt)).ownrd oy15_27)
  simp only [slc_val]
  simp (maxSteps := 4000000) (disch := omega) only [Zq, evO, vbox, wr, Zeq, if_true, if_false, Nat.reduceEqDiff, Nat.reduceAdd, Nat.reduceLeDiff, Nat.reduceSub, and_self, and_true, true_and, reduceIte, reduceCtorEq, eq_self, implies_true, forall_const, false_implies, imp_self, decide_true, decide_false, vbinB_ne, gb0_27, t1, t2, t3, t10, t14, t16, t98]
  refine GO_call_eq (by (simp (maxSteps := 4000000) (disch := omega) only [Zq, evO, vbox, wr, Zeq, if_true, if_false, Nat.reduceEqDiff, Nat.reduceAdd, Nat.reduceLeDiff, Nat.reduceSub, and_self, and_true, true_and, reduceIte, reduceCtorEq, eq_self, implies_true, forall_const, false_implies, imp_self, decide_true, decide_false, t1, t2, t3, t10, t14, t16, t98]) <;> rfl) ((own_law (r_impl_OnEdges (net_law ((rNet).ownrd oy13_27) ht0).1 (net_law ((rNet).ownrd oy13_27) ht0).2 (((rSlc rTrip)).ownrd oy14_27) ht1 (((rSlc rInt)).ownrd oy15_27) (tot_len ht2) a3)).mono ?_)
  rintro _ H28 ⟨k28, csr160, Fr160, rfl, or160_28, fr160⟩
  have n28 := k28.nxt
  have gb0_28 := (k28.get H.nxt (by omega)).trans gb0_27
  have k0_28 := k0_27.trans k28
  have or40_28 := ((rSlc rInt)).ownKeep or40_27 k28
  have or90_28 := ((rSlc rInt)).ownKeep or90_27 k28
  have oy13_28 := (rNet).ownKeep oy13_27 k28
  have oy14_28 := ((rSlc rTrip)).ownKeep oy14_27 k28
  have oy15_28 := ((rSlc rInt)).ownKeep oy15_27 k28
  obtain ⟨vr160, rfl⟩ := slc_one (((rSlc rInt)).ownrd or160_28)
  simp only [slc_val]
  simp (maxSteps := 4000000) (disch := omega) only [Zq, evO, vbox, wr, Zeq, if_true, if_false, Nat.reduceEqDiff, Nat.reduceAdd, Nat.reduceLeDiff, Nat.reduceSub, and_self, and_true, true_and, reduceIte, reduceCtorEq, eq_self, implies_true, forall_const, false_implies, imp_self, decide_true, decide_false, vbinB_ne, gb0_28, t1, t2, t3, t10, t14, t16, t98]
  first | refine G_fix [14, 16, 106, 107] ?_ | refine GO_fix [14, 16, 106, 107] ?_ | refine cK_fix [14, 16, 106, 107] ?_
  intro T hT
  simp only [fix_nil, fix_cons, Zq, evO, vbox, wr, Zeq, if_true, if_false, Nat.reduceEqDiff, Nat.reduceAdd, Nat.reduceLeDiff, Nat.reduceSub, and_self, and_true, true_and, reduceIte, reduceCtorEq, eq_self, implies_true, forall_const, false_implies, imp_self, decide_true, decide_false, t1, t2, t3, t10, t14, t16, t98] at hT
  obtain ⟨t14, t16, t106, t107⟩ := hT
  refine GO_call_eq (by (simp (maxSteps := 4000000) (disch := omega) only [Zq, evO, vbox, wr, Zeq, if_true, if_false, Nat.reduceEqDiff, Nat.reduceAdd, Nat.reduceLeDiff, Nat.reduceSub, and_self, and_true, true_and, reduceIte, reduceCtorEq, eq_self, implies_true, forall_const, false_implies, imp_self, decide_true, decide_false, t14, t16, t106, t107]) <;> rfl) ((eqIntS_is H28 [vr160] [vr40] ((noOr (dayOk a0.1 a0.2 a1 a2) (onL a0.2 a1 a2 a3))) (((rSlc rInt)).ownrd or160_28) (((rSlc rInt)).ownrd or40_28) (by omega)).mono ?_)
  rintro _ H29 ⟨k29, rfl⟩
  have n29 := k29.nxt
  have gb0_29 := (k29.get H.nxt (by omega)).trans gb0_28
  have k0_29 := k0_28.trans k29
  have or40_29 := ((rSlc rInt)).ownKeep or40_28 k29
  have or90_29 := ((rSlc rInt)).ownKeep or90_28 k29
  have or160_29 := ((rSlc rInt)).ownKeep or160_28 k29
  simp (maxSteps := 4000000) (disch := omega) only [Zq, evO, vbox, wr, Zeq, if_true, if_false, Nat.reduceEqDiff, Nat.reduceAdd, Nat.reduceLeDiff, Nat.reduceSub, and_self, and_true, true_and, reduceIte, reduceCtorEq, eq_self, implies_true, forall_const, false_implies, imp_self, decide_true, decide_false, vbinB_ne, gb0_29, t14, t16, t106, t107]
  refine GO_call_eq (by (simp (maxSteps := 4000000) (disch := omega) only [Zq, evO, vbox, wr, Zeq, if_true, if_false, Nat.reduceEqDiff, Nat.reduceAdd, Nat.reduceLeDiff, Nat.reduceSub, and_self, and_true, true_and, reduceIte, reduceCtorEq, eq_self, implies_true, forall_const, false_implies, imp_self, decide_true, decide_false, t14, t16, t106, t107]) <;> rfl) ((heldIntS_is H29 [vr90] ((noOr (dayOk a0.1 a0.2 a1 a2) (onL a0.2 a1 a2 a3))) (1) (((rSlc rInt)).ownrd or90_29) (by omega)).mono ?_)
  rintro _ H30 ⟨k30, rfl⟩
  have n30 := k30.nxt
  have gb0_30 := (k30.get H.nxt (by omega)).trans gb0_29
  have k0_30 := k0_29.trans k30
  have or40_30 := ((rSlc rInt)).ownKeep or40_29 k30
  have or90_30 := ((rSlc rInt)).ownKeep or90_29 k30
  have or160_30 := ((rSlc rInt)).ownKeep or160_29 k30
  simp (maxSteps := 4000000) (disch := omega) only [Zq, evO, vbox, wr, Zeq, if_true, if_false, Nat.reduceEqDiff, Nat.reduceAdd, Nat.reduceLeDiff, Nat.reduceSub, and_self, and_true, true_and, reduceIte, reduceCtorEq, eq_self, implies_true, forall_const, false_implies, imp_self, decide_true, decide_false, vbinB_ne, gb0_30, t14, t16, t106, t107]
theorem good_Int {H : Heap} {n : Nat} {xs : List Value} (h : Good Try.prog H n 3 xs) : ∃ a, (rInt).rd H xs a ∧ (rInt).fit a := by
  obtain ⟨z, rfl, _⟩ := good_int (k := .i64) (by kernel_rfl) h
  exact ⟨z, rfl, trivial⟩
theorem good_Edge {H : Heap} {n : Nat} {xs : List Value} (h : Good Try.prog H n 126 xs) : ∃ a, (rEdge).rd H xs a ∧ (rEdge).fit a := by
  have hl := good_cells (c := 4) (by kernel_rfl) (by kernel_rfl) h
  obtain ⟨c0, c1, c2, c3, rfl⟩ : ∃ c0 c1 c2 c3, xs = [c0, c1, c2, c3] := by
    match xs, hl with
    | [c0, c1, c2, c3], _ => exact ⟨c0, c1, c2, c3, rfl⟩
  obtain ⟨_, f0⟩ := good_field (i := 0) (t' := 3) (o := 0) (c := 1) (by kernel_rfl) h
  obtain ⟨y0, r0, t0⟩ := good_Int f0
  obtain ⟨_, f1⟩ := good_field (i := 1) (t' := 3) (o := 1) (c := 1) (by kernel_rfl) h
  obtain ⟨y1, r1, t1⟩ := good_Int f1
  obtain ⟨_, f2⟩ := good_field (i := 2) (t' := 3) (o := 2) (c := 1) (by kernel_rfl) h
  obtain ⟨y2, r2, t2⟩ := good_Int f2
  obtain ⟨_, f3⟩ := good_field (i := 3) (t' := 3) (o := 3) (c := 1) (by kernel_rfl) h
  obtain ⟨y3, r3, t3⟩ := good_Int f3
  have e0 : c0 = .int .i64 y0 := by have := r0; simpa [leafRep] using this
  subst e0
  have e1 : c1 = .int .i64 y1 := by have := r1; simpa [leafRep] using this
  subst e1
  have e2 : c2 = .int .i64 y2 := by have := r2; simpa [leafRep] using this
  subst e2
  have e3 : c3 = .int .i64 y3 := by have := r3; simpa [leafRep] using this
  subst e3
  exact ⟨(y0, y1, y2, y3), rfl, trivial⟩
theorem good_EdgeS {H : Heap} {n : Nat} {xs : List Value} (h : Good Try.prog H n 51 xs) : ∃ a, ((rSlc rEdge)).rd H xs a ∧ ((rSlc rEdge)).fit a :=
  good_slcs (e := 126) (c := 4) (by kernel_rfl) (by kernel_rfl) (fun m row _ hg => good_Edge hg) rfl h
theorem good_Net {H : Heap} {n : Nat} {xs : List Value} (h : Good Try.prog H n 53 xs) : ∃ a, (rNet).rd H xs a ∧ (rNet).fit a := by
  have hl := good_cells (c := 2) (by kernel_rfl) (by kernel_rfl) h
  obtain ⟨c0, c1, rfl⟩ : ∃ c0 c1, xs = [c0, c1] := by
    match xs, hl with
    | [c0, c1], _ => exact ⟨c0, c1, rfl⟩
  obtain ⟨_, f0⟩ := good_field (i := 0) (t' := 3) (o := 0) (c := 1) (by kernel_rfl) h
  obtain ⟨y0, r0, t0⟩ := good_Int f0
  obtain ⟨_, f1⟩ := good_field (i := 1) (t' := 51) (o := 1) (c := 1) (by kernel_rfl) h
  obtain ⟨y1, r1, t1⟩ := good_EdgeS f1
  exact ⟨(y0, y1), ⟨[c0], _, rfl, r0, r1⟩, t0, t1⟩
theorem good_Str {H : Heap} {n : Nat} {xs : List Value} (h : Good Try.prog H n 9 xs) : ∃ a, (rStr).rd H xs a ∧ (rStr).fit a := by
  obtain ⟨z, rfl, hz⟩ := good_str (by kernel_rfl) h
  exact ⟨z, rfl, hz⟩
theorem good_Call {H : Heap} {n : Nat} {xs : List Value} (h : Good Try.prog H n 140 xs) : ∃ a, (rCall).rd H xs a ∧ (rCall).fit a := by
  have hl := good_cells (c := 3) (by kernel_rfl) (by kernel_rfl) h
  obtain ⟨c0, c1, c2, rfl⟩ : ∃ c0 c1 c2, xs = [c0, c1, c2] := by
    match xs, hl with
    | [c0, c1, c2], _ => exact ⟨c0, c1, c2, rfl⟩
  obtain ⟨_, f0⟩ := good_field (i := 0) (t' := 3) (o := 0) (c := 1) (by kernel_rfl) h
  obtain ⟨y0, r0, t0⟩ := good_Int f0
  obtain ⟨_, f1⟩ := good_field (i := 1) (t' := 3) (o := 1) (c := 1) (by kernel_rfl) h
  obtain ⟨y1, r1, t1⟩ := good_Int f1
  obtain ⟨_, f2⟩ := good_field (i := 2) (t' := 3) (o := 2) (c := 1) (by kernel_rfl) h
  obtain ⟨y2, r2, t2⟩ := good_Int f2
  have e0 : c0 = .int .i64 y0 := by have := r0; simpa [leafRep] using this
  subst e0
  have e1 : c1 = .int .i64 y1 := by have := r1; simpa [leafRep] using this
  subst e1
  have e2 : c2 = .int .i64 y2 := by have := r2; simpa [leafRep] using this
  subst e2
  exact ⟨(y0, y1, y2), rfl, trivial⟩
theorem good_CallS {H : Heap} {n : Nat} {xs : List Value} (h : Good Try.prog H n 93 xs) : ∃ a, ((rSlc rCall)).rd H xs a ∧ ((rSlc rCall)).fit a :=
  good_slcs (e := 140) (c := 3) (by kernel_rfl) (by kernel_rfl) (fun m row _ hg => good_Call hg) rfl h
theorem good_Trip {H : Heap} {n : Nat} {xs : List Value} (h : Good Try.prog H n 95 xs) : ∃ a, (rTrip).rd H xs a ∧ (rTrip).fit a := by
  have hl := good_cells (c := 2) (by kernel_rfl) (by kernel_rfl) h
  obtain ⟨c0, c1, rfl⟩ : ∃ c0 c1, xs = [c0, c1] := by
    match xs, hl with
    | [c0, c1], _ => exact ⟨c0, c1, rfl⟩
  obtain ⟨_, f0⟩ := good_field (i := 0) (t' := 9) (o := 0) (c := 1) (by kernel_rfl) h
  obtain ⟨y0, r0, t0⟩ := good_Str f0
  obtain ⟨_, f1⟩ := good_field (i := 1) (t' := 93) (o := 1) (c := 1) (by kernel_rfl) h
  obtain ⟨y1, r1, t1⟩ := good_CallS f1
  exact ⟨(y0, y1), ⟨[c0], _, rfl, r0, r1⟩, t0, t1⟩
theorem good_TripS {H : Heap} {n : Nat} {xs : List Value} (h : Good Try.prog H n 54 xs) : ∃ a, ((rSlc rTrip)).rd H xs a ∧ ((rSlc rTrip)).fit a :=
  good_slcs (e := 95) (c := 2) (by kernel_rfl) (by kernel_rfl) (fun m row _ hg => good_Trip hg) rfl h
theorem good_IntS {H : Heap} {n : Nat} {xs : List Value} (h : Good Try.prog H n 28 xs) : ∃ a, ((rSlc rInt)).rd H xs a ∧ ((rSlc rInt)).fit a :=
  good_slcs (e := 3) (c := 1) (by kernel_rfl) (by kernel_rfl) (fun m row _ hg => good_Int hg) rfl h
theorem go_laws_FnExactOnEdges (H : Heap) (xs : List Value) (h : GoodArgs Try.prog H Try.f9.params.toList xs) : ∃ H', CR Try.prog 9 xs H (.bool true) H' := by
  rw [Try.params9] at h
  obtain ⟨w0, l0, rfl, p0, j0⟩ := good_args_cons h
  obtain ⟨w1, l1, rfl, p1, j1⟩ := good_args_cons j0
  obtain ⟨w2, l2, rfl, p2, j2⟩ := good_args_cons j1
  obtain ⟨w3, l3, rfl, p3, j3⟩ := good_args_cons j2
  obtain rfl := good_args_nil j3
  obtain ⟨ys0, n0, rfl, g0⟩ := goodV_agg (by kernel_rfl) p0
  obtain ⟨a0, e0, t0⟩ := good_Net g0
  obtain ⟨v0_1, rfl, _⟩ := net_rd (x0 := (a0).1) (x1 := (a0).2) e0
  obtain ⟨_, g1⟩ := goodV_one (by kernel_rfl) p1
  obtain ⟨a1, e1, t1⟩ := good_TripS g1
  obtain ⟨_, g2⟩ := goodV_one (by kernel_rfl) p2
  obtain ⟨a2, e2, t2⟩ := good_IntS g2
  obtain ⟨_, g3⟩ := goodV_one (by kernel_rfl) p3
  obtain ⟨a3, e3, t3⟩ := good_Int g3
  have e3 : w3 = .int .i64 a3 := by simpa [leafRep] using e3
  subst e3
  obtain ⟨r, H', hr, rfl⟩ := r_laws_FnExactOnEdges (a3 := a3) e0 t0 e1 t1 e2 t2
  exact ⟨H', hr⟩
end Go.Proofs.Ytjjglonmaajjoaa.AX
