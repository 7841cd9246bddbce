/- FnExactPlanned: the law's run. No condition; of the program: the functions' forms. -/
import Derived.Test.YtjjglonmaajjoaaPna
import Derived.Test.YtjjglonmaajjoaaRmk
namespace Go.Proofs.Ytjjglonmaajjoaa.AX
open Go
set_option maxRecDepth 10000
set_option maxHeartbeats 4000000
set_option linter.unusedSimpArgs false
set_option linter.unusedVariables false
theorem net_law {H : Heap} {v : Value} {p : Int × List Ed} (h : rNet.rd H [.int .i64 p.1, v] p) (ht : rNet.tot p ≤ 1048576) : (rSlc rEdge).rd H [v] p.2 ∧ p.2.length ≤ 1048576 := by
  obtain ⟨a, e, q⟩ := net_rd (x0 := p.1) (x1 := p.2) h
  simp only [List.cons.injEq, and_true, true_and] at e
  subst e
  refine ⟨q, ?_⟩
  have : rNet.tot (p.1, p.2) = (rSlc rEdge).tot p.2 := net_tot
  rw [flat_tot] at this
  have e2 : rNet.tot p = rNet.tot (p.1, p.2) := rfl
  omega
theorem mar_Net (x : Int × (List (Int × Int × Int × Int))) (k : Nat) : (mNet x k).2 ≤ k + 99 * rNet.tot x := by
  obtain ⟨x0, x1⟩ := x
  rw [net_tot]
  simp only [mNet]
  have b1 := mar_le marB_Edge x1 (k)
  omega
theorem own_law {α : Type} {ρ : Rep α} {X : List α} {f : FuncId} {args : List Value} {H : Heap} (h : Run Try.prog f args H fun r H' => Keep H H' ∧ OwnS ρ H H' r X) : Run Try.prog f args H fun r H' => Keep H H' ∧ ∃ cs F, r = (rSlc ρ).val cs ∧ (rSlc ρ).own H' cs X F ∧ Fresh H H' F :=
  h.mono (by rintro r H' ⟨k, F, hF, fF⟩; exact ⟨k, [r], F, rfl, hF, fF⟩)
def planO (n : Int) (es : List Ed) (l : List Tp) : List Rn := if ridden n es l then planR (allR l l.length) else []
theorem plan_len (n : Int) (es : List Ed) (l : List Tp) : (planO n es l).length ≤ 300 := by
  rw [planO]
  split
  · rename_i h
    obtain ⟨_, l24, htp, _⟩ := ridden_get h
    have := allR_len (l := l) (i := l.length) (fun j hj => (tpOk_get (htp j hj)).2.1)
    rw [(planR_perm _).length_eq]
    omega
  · simp
theorem r_laws_FnExactPlanned {H : Heap} {v0_1 : Value} {a0 : Int × (List (Int × Int × Int × Int))} {v1 : Value} {a1 : List (ByteArray × (List (Int × Int × Int)))} (h0 : (rNet).rd H [.int .i64 (a0).1, v0_1] a0) (fit0 : (rNet).fit a0) (h1 : ((rSlc rTrip)).rd H [v1] a1) (fit1 : ((rSlc rTrip)).fit a1) : Run Try.prog 11 [.agg #[.int .i64 (a0).1, v0_1], v1] H fun r _ => r = .bool true := by
  refine Run.intro c11 rfl ?_
  simp (maxSteps := 4000000) (disch := omega) only [Zq, evO, vbox, wr, Zeq, if_true, if_false, Nat.reduceEqDiff, Nat.reduceAdd, Nat.reduceLeDiff, Nat.reduceSub, and_self, and_true, true_and, reduceIte, reduceCtorEq, eq_self, implies_true, forall_const, false_implies, imp_self, decide_true, decide_false, x11]
  generalize hG0 : (H.push [.int .i64 (a0).1, v0_1]) = H0
  have k0_0 : Keep H H0 := by rw [← hG0]; repeat' (first | exact Keep.refl _ | assumption | refine Keep.push' ?_ | refine Keep.set' ?_ ?_ | refine Keep.moved' ?_ ?_ | omega)
  have gb0_0 : H0.get H.nxt = some (.own [.int .i64 (a0).1, v0_1]) := by rw [← hG0]; simp (maxSteps := 4000000) (disch := omega) only [Zq, evO, vbox, wr, Zeq, if_true, if_false, Nat.reduceEqDiff, Nat.reduceAdd, Nat.reduceLeDiff, Nat.reduceSub, and_self, and_true, true_and, reduceIte, reduceCtorEq, eq_self, implies_true, forall_const, false_implies, imp_self, decide_true, decide_false]
  have nn0 : H.nxt + 1 = H0.nxt := by rw [← hG0]; simp only [Zbg]
  refine GO_call ((szNet_is H0 [.int .i64 (a0).1, v0_1] a0 1048576 ((rNet).rdk h0 k0_0) fit0 (by omega)).mono ?_)
  rintro w H1 ⟨k1, hw⟩
  have n1 := k1.nxt
  have gb0_1 := (k1.get H.nxt (by omega)).trans gb0_0
  have k0_1 := k0_0.trans k1
  rcases hw with rfl | ⟨q0, rfl, hq0⟩
  · simp (maxSteps := 4000000) (disch := omega) only [Zq, evO, vbox, wr, Zeq, if_true, if_false, Nat.reduceEqDiff, Nat.reduceAdd, Nat.reduceLeDiff, Nat.reduceSub, and_self, and_true, true_and, reduceIte, reduceCtorEq, eq_self, implies_true, forall_const, false_implies, imp_self, decide_true, decide_false, vbinB_ne, gb0_1]
  simp (maxSteps := 4000000) (disch := omega) only [Zq, evO, vbox, wr, Zeq, if_true, if_false, Nat.reduceEqDiff, Nat.reduceAdd, Nat.reduceLeDiff, Nat.reduceSub, and_self, and_true, true_and, reduceIte, reduceCtorEq, eq_self, implies_true, forall_const, false_implies, imp_self, decide_true, decide_false, vbinB_ne, gb0_1]
  have ht0 : (rNet).tot a0 ≤ 1048576 := by omega
  first | refine G_fix [1, 2, 19, 20] ?_ | refine GO_fix [1, 2, 19, 20] ?_ | refine cK_fix [1, 2, 19, 20] ?_
  intro T hT
  simp only [fix_nil, fix_cons, Zq, evO, vbox, wr, Zeq, if_true, if_false, Nat.reduceEqDiff, Nat.reduceAdd, Nat.reduceLeDiff, Nat.reduceSub, and_self, and_true, true_and, reduceIte, reduceCtorEq, eq_self, implies_true, forall_const, false_implies, imp_self, decide_true, decide_false] at hT
  obtain ⟨t1, t2, t19, t20⟩ := hT
  refine GO_call_eq (by (simp (maxSteps := 4000000) (disch := omega) only [Zq, evO, vbox, wr, Zeq, if_true, if_false, Nat.reduceEqDiff, Nat.reduceAdd, Nat.reduceLeDiff, Nat.reduceSub, and_self, and_true, true_and, reduceIte, reduceCtorEq, eq_self, implies_true, forall_const, false_implies, imp_self, decide_true, decide_false, t1, t2, t19, t20]) <;> rfl) ((szTripS_is H1 [v1] a1 q0 (((rSlc rTrip)).rdk h1 k0_1) fit1 (by omega)).mono ?_)
  rintro w H2 ⟨k2, hw⟩
  have n2 := k2.nxt
  have gb0_2 := (k2.get H.nxt (by omega)).trans gb0_1
  have k0_2 := k0_1.trans k2
  rcases hw with rfl | ⟨q1, rfl, hq1⟩
  · simp (maxSteps := 4000000) (disch := omega) only [Zq, evO, vbox, wr, Zeq, if_true, if_false, Nat.reduceEqDiff, Nat.reduceAdd, Nat.reduceLeDiff, Nat.reduceSub, and_self, and_true, true_and, reduceIte, reduceCtorEq, eq_self, implies_true, forall_const, false_implies, imp_self, decide_true, decide_false, vbinB_ne, gb0_2, t1, t2, t19, t20]
  simp (maxSteps := 4000000) (disch := omega) only [Zq, evO, vbox, wr, Zeq, if_true, if_false, Nat.reduceEqDiff, Nat.reduceAdd, Nat.reduceLeDiff, Nat.reduceSub, and_self, and_true, true_and, reduceIte, reduceCtorEq, eq_self, implies_true, forall_const, false_implies, imp_self, decide_true, decide_false, vbinB_ne, gb0_2, t1, t2, t19, t20]
  have ht1 : ((rSlc rTrip)).tot a1 ≤ 1048576 := by omega
  refine GO_call_eq (by (simp (maxSteps := 4000000) (disch := omega) only [Zq, evO, vbox, wr, Zeq, if_true, if_false, Nat.reduceEqDiff, Nat.reduceAdd, Nat.reduceLeDiff, Nat.reduceSub, and_self, and_true, true_and, reduceIte, reduceCtorEq, eq_self, implies_true, forall_const, false_implies, imp_self, decide_true, decide_false, t1, t2, t19, t20]) <;> rfl) ((toNet_is H2 [.int .i64 (a0).1, v0_1] a0 ((rNet).rdk h0 k0_2) ht0).mono ?_)
  rintro _ H3 ⟨k3, csy1, Fy1, rfl, oy1_3, fy1⟩
  have n3 := k3.nxt
  have gb0_3 := (k3.get H.nxt (by omega)).trans gb0_2
  have k0_3 := k0_2.trans k3
  obtain ⟨vy1_1, rfl, _⟩ := net_rd (x0 := (a0).1) (x1 := (a0).2) ((rNet).ownrd oy1_3)
  simp only [net_val]
  simp (maxSteps := 4000000) (disch := omega) only [Zq, evO, vbox, wr, Zeq, if_true, if_false, Nat.reduceEqDiff, Nat.reduceAdd, Nat.reduceLeDiff, Nat.reduceSub, and_self, and_true, true_and, reduceIte, reduceCtorEq, eq_self, implies_true, forall_const, false_implies, imp_self, decide_true, decide_false, vbinB_ne, gb0_3, t1, t2, t19, t20]
  first | refine G_fix [1, 2, 25, 26] ?_ | refine GO_fix [1, 2, 25, 26] ?_ | refine cK_fix [1, 2, 25, 26] ?_
  intro T hT
  simp only [fix_nil, fix_cons, Zq, evO, vbox, wr, Zeq, if_true, if_false, Nat.reduceEqDiff, Nat.reduceAdd, Nat.reduceLeDiff, Nat.reduceSub, and_self, and_true, true_and, reduceIte, reduceCtorEq, eq_self, implies_true, forall_const, false_implies, imp_self, decide_true, decide_false, t1, t2, t19, t20] at hT
  obtain ⟨t1, t2, t25, t26⟩ := hT
  refine GO_call_eq (by (simp (maxSteps := 4000000) (disch := omega) only [Zq, evO, vbox, wr, Zeq, if_true, if_false, Nat.reduceEqDiff, Nat.reduceAdd, Nat.reduceLeDiff, Nat.reduceSub, and_self, and_true, true_and, reduceIte, reduceCtorEq, eq_self, implies_true, forall_const, false_implies, imp_self, decide_true, decide_false, t1, t2, t25, t26]) <;> rfl) ((toTripS_is H3 [v1] a1 (((rSlc rTrip)).rdk h1 k0_3) ht1).mono ?_)
  rintro _ H4 ⟨k4, csy2, Fy2, rfl, oy2_4, fy2⟩
  have n4 := k4.nxt
  have gb0_4 := (k4.get H.nxt (by omega)).trans gb0_3
  have k0_4 := k0_3.trans k4
  have oy1_4 := (rNet).ownKeep oy1_3 k4
  obtain ⟨vy2, rfl⟩ := slc_one (((rSlc rTrip)).ownrd oy2_4)
  simp only [slc_val]
  simp (maxSteps := 4000000) (disch := omega) only [Zq, evO, vbox, wr, Zeq, if_true, if_false, Nat.reduceEqDiff, Nat.reduceAdd, Nat.reduceLeDiff, Nat.reduceSub, and_self, and_true, true_and, reduceIte, reduceCtorEq, eq_self, implies_true, forall_const, false_implies, imp_self, decide_true, decide_false, vbinB_ne, gb0_4, t1, t2, t25, t26]
  have hR0 : (rSlc rRun).tot (planO a0.1 a0.2 a1) ≤ 300 := by rw [flat_tot]; exact plan_len _ _ _
  refine GO_call_eq (by (simp (maxSteps := 4000000) (disch := omega) only [Zq, evO, vbox, wr, Zeq, if_true, if_false, Nat.reduceEqDiff, Nat.reduceAdd, Nat.reduceLeDiff, Nat.reduceSub, and_self, and_true, true_and, reduceIte, reduceCtorEq, eq_self, implies_true, forall_const, false_implies, imp_self, decide_true, decide_false, t1, t2, t25, t26]) <;> rfl) ((own_law (r_spec_Planned (net_law ((rNet).ownrd oy1_4) ht0).1 (net_law ((rNet).ownrd oy1_4) ht0).2 (((rSlc rTrip)).ownrd oy2_4) ht1)).mono ?_)
  rintro _ H5 ⟨k5, csr30, Fr30, rfl, or30_5, fr30⟩
  have n5 := k5.nxt
  have gb0_5 := (k5.get H.nxt (by omega)).trans gb0_4
  have k0_5 := k0_4.trans k5
  have oy1_5 := (rNet).ownKeep oy1_4 k5
  have oy2_5 := ((rSlc rTrip)).ownKeep oy2_4 k5
  obtain ⟨vr30, rfl⟩ := slc_one (((rSlc rRun)).ownrd or30_5)
  simp only [slc_val]
  simp (maxSteps := 4000000) (disch := omega) only [Zq, evO, vbox, wr, Zeq, if_true, if_false, Nat.reduceEqDiff, Nat.reduceAdd, Nat.reduceLeDiff, Nat.reduceSub, and_self, and_true, true_and, reduceIte, reduceCtorEq, eq_self, implies_true, forall_const, false_implies, imp_self, decide_true, decide_false, vbinB_ne, gb0_5, t1, t2, t25, t26]
  refine GO_call_eq (by (simp (maxSteps := 4000000) (disch := omega) only [Zq, evO, vbox, wr, Zeq, if_true, if_false, Nat.reduceEqDiff, Nat.reduceAdd, Nat.reduceLeDiff, Nat.reduceSub, and_self, and_true, true_and, reduceIte, reduceCtorEq, eq_self, implies_true, forall_const, false_implies, imp_self, decide_true, decide_false, t1, t2, t25, t26]) <;> rfl) ((toNet_is H5 [.int .i64 (a0).1, v0_1] a0 ((rNet).rdk h0 k0_5) ht0).mono ?_)
  rintro _ H6 ⟨k6, csy4, Fy4, rfl, oy4_6, fy4⟩
  have n6 := k6.nxt
  have gb0_6 := (k6.get H.nxt (by omega)).trans gb0_5
  have k0_6 := k0_5.trans k6
  have or30_6 := ((rSlc rRun)).ownKeep or30_5 k6
  obtain ⟨vy4_1, rfl, _⟩ := net_rd (x0 := (a0).1) (x1 := (a0).2) ((rNet).ownrd oy4_6)
  simp only [net_val]
  simp (maxSteps := 4000000) (disch := omega) only [Zq, evO, vbox, wr, Zeq, if_true, if_false, Nat.reduceEqDiff, Nat.reduceAdd, Nat.reduceLeDiff, Nat.reduceSub, and_self, and_true, true_and, reduceIte, reduceCtorEq, eq_self, implies_true, forall_const, false_implies, imp_self, decide_true, decide_false, vbinB_ne, gb0_6, t1, t2, t25, t26]
  generalize hG7 : ((H6.push [.int .i64 0, .slice none 0 0]).set H6.nxt [.int .i64 (a0).1, vy4_1]) = H7
  have k7 : Keep H6 H7 := by rw [← hG7]; repeat' (first | exact Keep.refl _ | assumption | refine Keep.push' ?_ | refine Keep.set' ?_ ?_ | refine Keep.moved' ?_ ?_ | omega)
  have gx5_7 : H7.get H6.nxt = some (.own [.int .i64 (a0).1, vy4_1]) := by rw [← hG7]; simp (maxSteps := 4000000) (disch := omega) only [Zq, evO, vbox, wr, Zeq, if_true, if_false, Nat.reduceEqDiff, Nat.reduceAdd, Nat.reduceLeDiff, Nat.reduceSub, and_self, and_true, true_and, reduceIte, reduceCtorEq, eq_self, implies_true, forall_const, false_implies, imp_self, decide_true, decide_false]
  have nn7 : H6.nxt + 1 = H7.nxt := by rw [← hG7]; simp only [Zbh, Zbg]
  have n7 := k7.nxt
  have gb0_7 := (k7.get H.nxt (by omega)).trans gb0_6
  have k0_7 := k0_6.trans k7
  have or30_7 := ((rSlc rRun)).ownKeep or30_6 k7
  have oy4_7 := (rNet).ownKeep oy4_6 k7
  try simp (maxSteps := 4000000) (disch := omega) only [Zq, evO, vbox, wr, Zeq, if_true, if_false, Nat.reduceEqDiff, Nat.reduceAdd, Nat.reduceLeDiff, Nat.reduceSub, and_self, and_true, true_and, reduceIte, reduceCtorEq, eq_self, implies_true, forall_const, false_implies, imp_self, decide_true, decide_false, vbinB_ne, gb0_7, gx5_7, t1, t2, t25, t26]
  first | refine G_fix [1, 2, 6, 7, 31] ?_ | refine GO_fix [1, 2, 6, 7, 31] ?_ | refine cK_fix [1, 2, 6, 7, 31] ?_
  intro T hT
  simp only [fix_nil, fix_cons, Zq, evO, vbox, wr, Zeq, if_true, if_false, Nat.reduceEqDiff, Nat.reduceAdd, Nat.reduceLeDiff, Nat.reduceSub, and_self, and_true, true_and, reduceIte, reduceCtorEq, eq_self, implies_true, forall_const, false_implies, imp_self, decide_true, decide_false, t1, t2, t25, t26] at hT
  obtain ⟨t1, t2, t6, t7, t31⟩ := hT
  refine GO_call_eq (by (simp (maxSteps := 4000000) (disch := omega) only [Zq, evO, vbox, wr, Zeq, if_true, if_false, Nat.reduceEqDiff, Nat.reduceAdd, Nat.reduceLeDiff, Nat.reduceSub, and_self, and_true, true_and, reduceIte, reduceCtorEq, eq_self, implies_true, forall_const, false_implies, imp_self, decide_true, decide_false, t1, t2, t6, t7, t31]) <;> rfl) ((toTripS_is H7 [v1] a1 (((rSlc rTrip)).rdk h1 k0_7) ht1).mono ?_)
  rintro _ H8 ⟨k8, csy6, Fy6, rfl, oy6_8, fy6⟩
  have n8 := k8.nxt
  have gb0_8 := (k8.get H.nxt (by omega)).trans gb0_7
  have gx5_8 := (k8.get H6.nxt (by omega)).trans gx5_7
  have k0_8 := k0_7.trans k8
  have or30_8 := ((rSlc rRun)).ownKeep or30_7 k8
  have oy4_8 := (rNet).ownKeep oy4_7 k8
  obtain ⟨vy6, rfl⟩ := slc_one (((rSlc rTrip)).ownrd oy6_8)
  simp only [slc_val]
  simp (maxSteps := 4000000) (disch := omega) only [Zq, evO, vbox, wr, Zeq, if_true, if_false, Nat.reduceEqDiff, Nat.reduceAdd, Nat.reduceLeDiff, Nat.reduceSub, and_self, and_true, true_and, reduceIte, reduceCtorEq, eq_self, implies_true, forall_const, false_implies, imp_self, decide_true, decide_false, vbinB_ne, gb0_8, gx5_8, t1, t2, t6, t7, t31]
  refine GO_call_eq (by (simp (maxSteps := 4000000) (disch := omega) only [Zq, evO, vbox, wr, Zeq, if_true, if_false, Nat.reduceEqDiff, Nat.reduceAdd, Nat.reduceLeDiff, Nat.reduceSub, and_self, and_true, true_and, reduceIte, reduceCtorEq, eq_self, implies_true, forall_const, false_implies, imp_self, decide_true, decide_false, t1, t2, t6, t7, t31]) <;> rfl) ((own_law (r_impl_Planned (net_law ((rNet).ownrd oy4_8) ht0).1 (net_law ((rNet).ownrd oy4_8) ht0).2 (((rSlc rTrip)).ownrd oy6_8) ht1)).mono ?_)
  rintro _ H9 ⟨k9, csr70, Fr70, rfl, or70_9, fr70⟩
  have n9 := k9.nxt
  have gb0_9 := (k9.get H.nxt (by omega)).trans gb0_8
  have gx5_9 := (k9.get H6.nxt (by omega)).trans gx5_8
  have k0_9 := k0_8.trans k9
  have or30_9 := ((rSlc rRun)).ownKeep or30_8 k9
  have oy4_9 := (rNet).ownKeep oy4_8 k9
  have oy6_9 := ((rSlc rTrip)).ownKeep oy6_8 k9
  obtain ⟨vr70, rfl⟩ := slc_one (((rSlc rRun)).ownrd or70_9)
  simp only [slc_val]
  simp (maxSteps := 4000000) (disch := omega) only [Zq, evO, vbox, wr, Zeq, if_true, if_false, Nat.reduceEqDiff, Nat.reduceAdd, Nat.reduceLeDiff, Nat.reduceSub, and_self, and_true, true_and, reduceIte, reduceCtorEq, eq_self, implies_true, forall_const, false_implies, imp_self, decide_true, decide_false, vbinB_ne, gb0_9, gx5_9, t1, t2, t6, t7, t31]
  first | refine G_fix [1, 2, 6, 7, 8, 9, 36, 37] ?_ | refine GO_fix [1, 2, 6, 7, 8, 9, 36, 37] ?_ | refine cK_fix [1, 2, 6, 7, 8, 9, 36, 37] ?_
  intro T hT
  simp only [fix_nil, fix_cons, Zq, evO, vbox, wr, Zeq, if_true, if_false, Nat.reduceEqDiff, Nat.reduceAdd, Nat.reduceLeDiff, Nat.reduceSub, and_self, and_true, true_and, reduceIte, reduceCtorEq, eq_self, implies_true, forall_const, false_implies, imp_self, decide_true, decide_false, t1, t2, t6, t7, t31] at hT
  obtain ⟨t1, t2, t6, t7, t8, t9, t36, t37⟩ := hT
  refine GO_call_eq (by (simp (maxSteps := 4000000) (disch := omega) only [Zq, evO, vbox, wr, Zeq, if_true, if_false, Nat.reduceEqDiff, Nat.reduceAdd, Nat.reduceLeDiff, Nat.reduceSub, and_self, and_true, true_and, reduceIte, reduceCtorEq, eq_self, implies_true, forall_const, false_implies, imp_self, decide_true, decide_false, t1, t2, t6, t7, t8, t9, t36, t37]) <;> rfl) ((eqRunS_is H9 [vr70] [vr30] ((planO a0.1 a0.2 a1)) (((rSlc rRun)).ownrd or70_9) (((rSlc rRun)).ownrd or30_9) (by omega)).mono ?_)
  rintro _ H10 ⟨k10, rfl⟩
  have n10 := k10.nxt
  have gb0_10 := (k10.get H.nxt (by omega)).trans gb0_9
  have gx5_10 := (k10.get H6.nxt (by omega)).trans gx5_9
  have k0_10 := k0_9.trans k10
  have or30_10 := ((rSlc rRun)).ownKeep or30_9 k10
  have oy4_10 := (rNet).ownKeep oy4_9 k10
  have oy6_10 := ((rSlc rTrip)).ownKeep oy6_9 k10
  have or70_10 := ((rSlc rRun)).ownKeep or70_9 k10
  simp (maxSteps := 4000000) (disch := omega) only [Zq, evO, vbox, wr, Zeq, if_true, if_false, Nat.reduceEqDiff, Nat.reduceAdd, Nat.reduceLeDiff, Nat.reduceSub, and_self, and_true, true_and, reduceIte, reduceCtorEq, eq_self, implies_true, forall_const, false_implies, imp_self, decide_true, decide_false, vbinB_ne, gb0_10, gx5_10, t1, t2, t6, t7, t8, t9, t36, t37]
  simp (maxSteps := 4000000) (disch := omega) only [ZD, Zio, Zip, pre_, beq_self_eq_true, Nat.reduceBEq, Zq, evO, vbox, wr, Zeq, if_true, if_false, Nat.reduceEqDiff, Nat.reduceAdd, Nat.reduceLeDiff, Nat.reduceSub, and_self, and_true, true_and, reduceIte, reduceCtorEq, eq_self, implies_true, forall_const, false_implies, imp_self, decide_true, decide_false, G_dreg, vbinB_ne, gb0_10, gx5_10, t1, t2, t6, t7, t8, t9, t36, t37]
  refine GD_call_eq (by (simp (maxSteps := 4000000) (disch := omega) only [Zq, evO, vbox, wr, Zeq, if_true, if_false, Nat.reduceEqDiff, Nat.reduceAdd, Nat.reduceLeDiff, Nat.reduceSub, and_self, and_true, true_and, reduceIte, reduceCtorEq, eq_self, implies_true, forall_const, false_implies, imp_self, decide_true, decide_false, t1, t2, t6, t7, t8, t9, t36, t37]) <;> rfl) ((toNet_is H10 [.int .i64 (a0).1, v0_1] a0 ((rNet).rdk h0 k0_10) ht0).mono ?_)
  rintro _ H11 ⟨k11, csy8, Fy8, rfl, oy8_11, fy8⟩
  have n11 := k11.nxt
  have gb0_11 := (k11.get H.nxt (by omega)).trans gb0_10
  have gx5_11 := (k11.get H6.nxt (by omega)).trans gx5_10
  have k0_11 := k0_10.trans k11
  have or30_11 := ((rSlc rRun)).ownKeep or30_10 k11
  have oy4_11 := (rNet).ownKeep oy4_10 k11
  have oy6_11 := ((rSlc rTrip)).ownKeep oy6_10 k11
  have or70_11 := ((rSlc rRun)).ownKeep or70_10 k11
  obtain ⟨vy8_1, rfl, _⟩ := net_rd (x0 := (a0).1) (x1 := (a0).2) ((rNet).ownrd oy8_11)
  simp only [net_val]
  simp (maxSteps := 4000000) (disch := omega) only [ZD, Zio, Zip, pre_, beq_self_eq_true, Nat.reduceBEq, Zq, evO, vbox, wr, Zeq, if_true, if_false, Nat.reduceEqDiff, Nat.reduceAdd, Nat.reduceLeDiff, Nat.reduceSub, and_self, and_true, true_and, reduceIte, reduceCtorEq, eq_self, implies_true, forall_const, false_implies, imp_self, decide_true, decide_false, vbinB_ne, gb0_11, gb0_10, gx5_11, gx5_10, t1, t2, t6, t7, t8, t9, t36, t37]
  refine GD_call_eq (by (simp (maxSteps := 4000000) (disch := omega) only [Zq, evO, vbox, wr, Zeq, if_true, if_false, Nat.reduceEqDiff, Nat.reduceAdd, Nat.reduceLeDiff, Nat.reduceSub, and_self, and_true, true_and, reduceIte, reduceCtorEq, eq_self, implies_true, forall_const, false_implies, imp_self, decide_true, decide_false, t1, t2, t6, t7, t8, t9, t36, t37]) <;> rfl) ((eqNet_is H11 [.int .i64 (a0).1, vy4_1] [.int .i64 (a0).1, vy8_1] (a0) ((rNet).ownrd oy4_11) ((rNet).ownrd oy8_11) (by omega)).mono ?_)
  rintro _ H12 ⟨k12, rfl⟩
  have n12 := k12.nxt
  have gb0_12 := (k12.get H.nxt (by omega)).trans gb0_11
  have gx5_12 := (k12.get H6.nxt (by omega)).trans gx5_11
  have k0_12 := k0_11.trans k12
  have or30_12 := ((rSlc rRun)).ownKeep or30_11 k12
  have oy4_12 := (rNet).ownKeep oy4_11 k12
  have oy6_12 := ((rSlc rTrip)).ownKeep oy6_11 k12
  have or70_12 := ((rSlc rRun)).ownKeep or70_11 k12
  have oy8_12 := (rNet).ownKeep oy8_11 k12
  simp (maxSteps := 4000000) (disch := omega) only [ZD, Zio, Zip, pre_, beq_self_eq_true, Nat.reduceBEq, Zq, evO, vbox, wr, Zeq, if_true, if_false, Nat.reduceEqDiff, Nat.reduceAdd, Nat.reduceLeDiff, Nat.reduceSub, and_self, and_true, true_and, reduceIte, reduceCtorEq, eq_self, implies_true, forall_const, false_implies, imp_self, decide_true, decide_false, vbinB_ne, gb0_12, gb0_10, gb0_11, gx5_12, gx5_10, gx5_11, t1, t2, t6, t7, t8, t9, t36, t37]
  first | with_reducible refine And.intro (by repeat' (first | exact trivial | apply And.intro | omega | exact k11.get _ (by omega) | exact k12.get _ (by omega) | (simp only [Zbi, push_get']; split <;> first | omega | rfl))) ?_ | skip
  try simp (maxSteps := 4000000) (disch := omega) only [Zq, evO, vbox, wr, Zeq, if_true, if_false, Nat.reduceEqDiff, Nat.reduceAdd, Nat.reduceLeDiff, Nat.reduceSub, and_self, and_true, true_and, reduceIte, reduceCtorEq, eq_self, implies_true, forall_const, false_implies, imp_self, decide_true, decide_false, vbinB_ne, gb0_12, gx5_12, t1, t2, t6, t7, t8, t9, t36, t37]
  first | refine G_fix [1, 2, 6, 7, 8, 9, 45, 46] ?_ | refine GO_fix [1, 2, 6, 7, 8, 9, 45, 46] ?_ | refine cK_fix [1, 2, 6, 7, 8, 9, 45, 46] ?_
  intro T hT
  simp only [fix_nil, fix_cons, Zq, evO, vbox, wr, Zeq, if_true, if_false, Nat.reduceEqDiff, Nat.reduceAdd, Nat.reduceLeDiff, Nat.reduceSub, and_self, and_true, true_and, reduceIte, reduceCtorEq, eq_self, implies_true, forall_const, false_implies, imp_self, decide_true, decide_false, t1, t2, t6, t7, t8, t9, t36, t37] at hT
  obtain ⟨t1, t2, t6, t7, t8, t9, t45, t46⟩ := hT
  refine GO_call_eq (by (simp (maxSteps := 4000000) (disch := omega) only [Zq, evO, vbox, wr, Zeq, if_true, if_false, Nat.reduceEqDiff, Nat.reduceAdd, Nat.reduceLeDiff, Nat.reduceSub, and_self, and_true, true_and, reduceIte, reduceCtorEq, eq_self, implies_true, forall_const, false_implies, imp_self, decide_true, decide_false, t1, t2, t6, t7, t8, t9, t45, t46]) <;> rfl) ((toTripS_is H12 [v1] a1 (((rSlc rTrip)).rdk h1 k0_12) ht1).mono ?_)
  rintro _ H13 ⟨k13, csy9, Fy9, rfl, oy9_13, fy9⟩
  have n13 := k13.nxt
  have gb0_13 := (k13.get H.nxt (by omega)).trans gb0_12
  have gx5_13 := (k13.get H6.nxt (by omega)).trans gx5_12
  have k0_13 := k0_12.trans k13
  have or30_13 := ((rSlc rRun)).ownKeep or30_12 k13
  have oy4_13 := (rNet).ownKeep oy4_12 k13
  have oy6_13 := ((rSlc rTrip)).ownKeep oy6_12 k13
  have or70_13 := ((rSlc rRun)).ownKeep or70_12 k13
  obtain ⟨vy9, rfl⟩ := slc_one (((rSlc rTrip)).ownrd oy9_13)
  simp only [slc_val]
  simp (maxSteps := 4000000) (disch := omega) only [Zq, evO, vbox, wr, Zeq, if_true, if_false, Nat.reduceEqDiff, Nat.reduceAdd, Nat.reduceLeDiff, Nat.reduceSub, and_self, and_true, true_and, reduceIte, reduceCtorEq, eq_self, implies_true, forall_const, false_implies, imp_self, decide_true, decide_false, vbinB_ne, gb0_13, gx5_13, t1, t2, t6, t7, t8, t9, t45, t46]
  refine GO_call_eq (by (simp (maxSteps := 4000000) (disch := omega) only [Zq, evO, vbox, wr, Zeq, if_true, if_false, Nat.reduceEqDiff, Nat.reduceAdd, Nat.reduceLeDiff, Nat.reduceSub, and_self, and_true, true_and, reduceIte, reduceCtorEq, eq_self, implies_true, forall_const, false_implies, imp_self, decide_true, decide_false, t1, t2, t6, t7, t8, t9, t45, t46]) <;> rfl) ((eqTripS_is H13 [vy6] [vy9] (a1) (((rSlc rTrip)).ownrd oy6_13) (((rSlc rTrip)).ownrd oy9_13) (by omega)).mono ?_)
  rintro _ H14 ⟨k14, rfl⟩
  have n14 := k14.nxt
  have gb0_14 := (k14.get H.nxt (by omega)).trans gb0_13
  have gx5_14 := (k14.get H6.nxt (by omega)).trans gx5_13
  have k0_14 := k0_13.trans k14
  have or30_14 := ((rSlc rRun)).ownKeep or30_13 k14
  have oy4_14 := (rNet).ownKeep oy4_13 k14
  have oy6_14 := ((rSlc rTrip)).ownKeep oy6_13 k14
  have or70_14 := ((rSlc rRun)).ownKeep or70_13 k14
  have oy9_14 := ((rSlc rTrip)).ownKeep oy9_13 k14
  simp (maxSteps := 4000000) (disch := omega) only [Zq, evO, vbox, wr, Zeq, if_true, if_false, Nat.reduceEqDiff, Nat.reduceAdd, Nat.reduceLeDiff, Nat.reduceSub, and_self, and_true, true_and, reduceIte, reduceCtorEq, eq_self, implies_true, forall_const, false_implies, imp_self, decide_true, decide_false, vbinB_ne, gb0_14, gx5_14, t1, t2, t6, t7, t8, t9, t45, t46]
  have hm15 := mar_Net (a0) (1)
  refine GO_call_eq (by (simp (maxSteps := 4000000) (disch := omega) only [Zq, evO, vbox, wr, Zeq, if_true, if_false, Nat.reduceEqDiff, Nat.reduceAdd, Nat.reduceLeDiff, Nat.reduceSub, and_self, and_true, true_and, reduceIte, reduceCtorEq, eq_self, implies_true, forall_const, false_implies, imp_self, decide_true, decide_false, t1, t2, t6, t7, t8, t9, t45, t46]) <;> rfl) ((markNet_is H14 [.int .i64 (a0).1, vy4_1] (a0) Fy4 (1) oy4_14 fy4.1 (by omega)).mono ?_)
  rintro _ H15 ⟨c15, oy4_15, rfl⟩
  have n15 := c15.nxt
  have gb0_15 := (c15.get H.nxt (by omega) (fun hm => by have := fy4.2 _ hm; omega)).trans gb0_14
  have gx5_15 := (c15.get H6.nxt (by omega) (fun hm => by have := fy4.2 _ hm; omega)).trans gx5_14
  have k0_15 := c15.keep k0_14 (fun i hi => by have := fy4.2 i hi; omega)
  have or30_15 := ((rSlc rRun)).ownChg or30_14 c15 (fun i hi hm => by have := fr30.2 i hi; have := fy4.2 i hm; omega)
  have oy6_15 := ((rSlc rTrip)).ownChg oy6_14 c15 (fun i hi hm => by have := fy6.2 i hi; have := fy4.2 i hm; omega)
  have or70_15 := ((rSlc rRun)).ownChg or70_14 c15 (fun i hi hm => by have := fr70.2 i hi; have := fy4.2 i hm; omega)
  simp (maxSteps := 4000000) (disch := omega) only [Zq, evO, vbox, wr, Zeq, if_true, if_false, Nat.reduceEqDiff, Nat.reduceAdd, Nat.reduceLeDiff, Nat.reduceSub, and_self, and_true, true_and, reduceIte, reduceCtorEq, eq_self, implies_true, forall_const, false_implies, imp_self, decide_true, decide_false, vbinB_ne, gb0_15, t1, t2, t6, t7, t8, t9, t45, t46]
  first | refine G_fix [1, 2, 6, 9, 53, 54] ?_ | refine GO_fix [1, 2, 6, 9, 53, 54] ?_ | refine cK_fix [1, 2, 6, 9, 53, 54] ?_
  intro T hT
  simp only [fix_nil, fix_cons, Zq, evO, vbox, wr, Zeq, if_true, if_false, Nat.reduceEqDiff, Nat.reduceAdd, Nat.reduceLeDiff, Nat.reduceSub, and_self, and_true, true_and, reduceIte, reduceCtorEq, eq_self, implies_true, forall_const, false_implies, imp_self, decide_true, decide_false, t1, t2, t6, t7, t8, t9, t45, t46] at hT
  obtain ⟨t1, t2, t6, t9, t53, t54⟩ := hT
  have hm16 := mar_le marB_Trip (a1) ((mNet (a0) (1)).2)
  refine GO_call_eq (by (simp (maxSteps := 4000000) (disch := omega) only [Zq, evO, vbox, wr, Zeq, if_true, if_false, Nat.reduceEqDiff, Nat.reduceAdd, Nat.reduceLeDiff, Nat.reduceSub, and_self, and_true, true_and, reduceIte, reduceCtorEq, eq_self, implies_true, forall_const, false_implies, imp_self, decide_true, decide_false, t1, t2, t6, t9, t53, t54]) <;> rfl) ((markTripS_is H15 [vy6] (a1) Fy6 ((mNet (a0) (1)).2) oy6_15 fy6.1 (by omega)).mono ?_)
  rintro _ H16 ⟨c16, oy6_16, rfl⟩
  have n16 := c16.nxt
  have gb0_16 := (c16.get H.nxt (by omega) (fun hm => by have := fy6.2 _ hm; omega)).trans gb0_15
  have k0_16 := c16.keep k0_15 (fun i hi => by have := fy6.2 i hi; omega)
  have or30_16 := ((rSlc rRun)).ownChg or30_15 c16 (fun i hi hm => by have := fr30.2 i hi; have := fy6.2 i hm; omega)
  have or70_16 := ((rSlc rRun)).ownChg or70_15 c16 (fun i hi hm => by have := fr70.2 i hi; have := fy6.2 i hm; omega)
  simp (maxSteps := 4000000) (disch := omega) only [Zq, evO, vbox, wr, Zeq, if_true, if_false, Nat.reduceEqDiff, Nat.reduceAdd, Nat.reduceLeDiff, Nat.reduceSub, and_self, and_true, true_and, reduceIte, reduceCtorEq, eq_self, implies_true, forall_const, false_implies, imp_self, decide_true, decide_false, vbinB_ne, gb0_16, t1, t2, t6, t9, t53, t54]
  refine GO_call_eq (by (simp (maxSteps := 4000000) (disch := omega) only [Zq, evO, vbox, wr, Zeq, if_true, if_false, Nat.reduceEqDiff, Nat.reduceAdd, Nat.reduceLeDiff, Nat.reduceSub, and_self, and_true, true_and, reduceIte, reduceCtorEq, eq_self, implies_true, forall_const, false_implies, imp_self, decide_true, decide_false, t1, t2, t6, t9, t53, t54]) <;> rfl) ((eqRunS_is H16 [vr70] [vr30] ((planO a0.1 a0.2 a1)) (((rSlc rRun)).ownrd or70_16) (((rSlc rRun)).ownrd or30_16) (by omega)).mono ?_)
  rintro _ H17 ⟨k17, rfl⟩
  have n17 := k17.nxt
  have gb0_17 := (k17.get H.nxt (by omega)).trans gb0_16
  have k0_17 := k0_16.trans k17
  have or30_17 := ((rSlc rRun)).ownKeep or30_16 k17
  have or70_17 := ((rSlc rRun)).ownKeep or70_16 k17
  simp (maxSteps := 4000000) (disch := omega) only [Zq, evO, vbox, wr, Zeq, if_true, if_false, Nat.reduceEqDiff, Nat.reduceAdd, Nat.reduceLeDiff, Nat.reduceSub, and_self, and_true, true_and, reduceIte, reduceCtorEq, eq_self, implies_true, forall_const, false_implies, imp_self, decide_true, decide_false, vbinB_ne, gb0_17, t1, t2, t6, t9, t53, t54]
  first | refine G_fix [1, 2, 6, 9, 64, 65] ?_ | refine GO_fix [1, 2, 6, 9, 64, 65] ?_ | refine cK_fix [1, 2, 6, 9, 64, 65] ?_
  intro T hT
  simp only [fix_nil, fix_cons, Zq, evO, vbox, wr, Zeq, if_true, if_false, Nat.reduceEqDiff, Nat.reduceAdd, Nat.reduceLeDiff, Nat.reduceSub, and_self, and_true, true_and, reduceIte, reduceCtorEq, eq_self, implies_true, forall_const, false_implies, imp_self, decide_true, decide_false, t1, t2, t6, t9, t53, t54] at hT
  obtain ⟨t1, t2, t6, t9, t64, t65⟩ := hT
  have hm18 := mar_le marB_Run ((planO a0.1 a0.2 a1)) (1)
  refine GO_call_eq (by (simp (maxSteps := 4000000) (disch := omega) only [Zq, evO, vbox, wr, Zeq, if_true, if_false, Nat.reduceEqDiff, Nat.reduceAdd, Nat.reduceLeDiff, Nat.reduceSub, and_self, and_true, true_and, reduceIte, reduceCtorEq, eq_self, implies_true, forall_const, false_implies, imp_self, decide_true, decide_false, t1, t2, t6, t9, t64, t65]) <;> rfl) ((markRunS_is H17 [vr70] ((planO a0.1 a0.2 a1)) Fr70 (1) or70_17 fr70.1 (by omega)).mono ?_)
  rintro _ H18 ⟨c18, or70_18, rfl⟩
  have n18 := c18.nxt
  have gb0_18 := (c18.get H.nxt (by omega) (fun hm => by have := fr70.2 _ hm; omega)).trans gb0_17
  have k0_18 := c18.keep k0_17 (fun i hi => by have := fr70.2 i hi; omega)
  have or30_18 := ((rSlc rRun)).ownChg or30_17 c18 (fun i hi hm => by have := fr30.2 i hi; have := fr70.2 i hm; omega)
  simp (maxSteps := 4000000) (disch := omega) only [Zq, evO, vbox, wr, Zeq, if_true, if_false, Nat.reduceEqDiff, Nat.reduceAdd, Nat.reduceLeDiff, Nat.reduceSub, and_self, and_true, true_and, reduceIte, reduceCtorEq, eq_self, implies_true, forall_const, false_implies, imp_self, decide_true, decide_false, vbinB_ne, gb0_18, t1, t2, t6, t9, t64, t65]
  refine GO_call_eq (by (simp (maxSteps := 4000000) (disch := omega) only [Zq, evO, vbox, wr, Zeq, if_true, if_false, Nat.reduceEqDiff, Nat.reduceAdd, Nat.reduceLeDiff, Nat.reduceSub, and_self, and_true, true_and, reduceIte, reduceCtorEq, eq_self, implies_true, forall_const, false_implies, imp_self, decide_true, decide_false, t1, t2, t6, t9, t64, t65]) <;> rfl) ((heldRunS_is H18 [vr70] ((planO a0.1 a0.2 a1)) (1) (((rSlc rRun)).ownrd or70_18) (by omega)).mono ?_)
  rintro _ H19 ⟨k19, rfl⟩
  have n19 := k19.nxt
  have gb0_19 := (k19.get H.nxt (by omega)).trans gb0_18
  have k0_19 := k0_18.trans k19
  have or30_19 := ((rSlc rRun)).ownKeep or30_18 k19
  have or70_19 := ((rSlc rRun)).ownKeep or70_18 k19
  simp (maxSteps := 4000000) (disch := omega) only [Zq, evO, vbox, wr, Zeq, if_true, if_false, Nat.reduceEqDiff, Nat.reduceAdd, Nat.reduceLeDiff, Nat.reduceSub, and_self, and_true, true_and, reduceIte, reduceCtorEq, eq_self, implies_true, forall_const, false_implies, imp_self, decide_true, decide_false, vbinB_ne, gb0_19, t1, t2, t6, t9, t64, t65]
  first | refine G_fix [1, 6, 9, 11, 75] ?_ | refine GO_fix [1, 6, 9, 11, 75] ?_ | refine cK_fix [1, 6, 9, 11, 75] ?_
  intro T hT
  simp only [fix_nil, fix_cons, Zq, evO, vbox, wr, Zeq, if_true, if_false, Nat.reduceEqDiff, Nat.reduceAdd, Nat.reduceLeDiff, Nat.reduceSub, and_self, and_true, true_and, reduceIte, reduceCtorEq, eq_self, implies_true, forall_const, false_implies, imp_self, decide_true, decide_false, t1, t2, t6, t9, t64, t65] at hT
  obtain ⟨t1, t6, t9, t11, t75⟩ := hT
  refine GO_call_eq (by (simp (maxSteps := 4000000) (disch := omega) only [Zq, evO, vbox, wr, Zeq, if_true, if_false, Nat.reduceEqDiff, Nat.reduceAdd, Nat.reduceLeDiff, Nat.reduceSub, and_self, and_true, true_and, reduceIte, reduceCtorEq, eq_self, implies_true, forall_const, false_implies, imp_self, decide_true, decide_false, t1, t6, t9, t11, t75]) <;> rfl) ((toNet_is H19 [.int .i64 (a0).1, v0_1] a0 ((rNet).rdk h0 k0_19) ht0).mono ?_)
  rintro _ H20 ⟨k20, csy10, Fy10, rfl, oy10_20, fy10⟩
  have n20 := k20.nxt
  have gb0_20 := (k20.get H.nxt (by omega)).trans gb0_19
  have k0_20 := k0_19.trans k20
  have or30_20 := ((rSlc rRun)).ownKeep or30_19 k20
  have or70_20 := ((rSlc rRun)).ownKeep or70_19 k20
  obtain ⟨vy10_1, rfl, _⟩ := net_rd (x0 := (a0).1) (x1 := (a0).2) ((rNet).ownrd oy10_20)
  simp only [net_val]
  simp (maxSteps := 4000000) (disch := omega) only [Zq, evO, vbox, wr, Zeq, if_true, if_false, Nat.reduceEqDiff, Nat.reduceAdd, Nat.reduceLeDiff, Nat.reduceSub, and_self, and_true, true_and, reduceIte, reduceCtorEq, eq_self, implies_true, forall_const, false_implies, imp_self, decide_true, decide_false, vbinB_ne, gb0_20, t1, t6, t9, t11, t75]
  refine GO_call_eq (by (simp (maxSteps := 4000000) (disch := omega) only [Zq, evO, vbox, wr, Zeq, if_true, if_false, Nat.reduceEqDiff, Nat.reduceAdd, Nat.reduceLeDiff, Nat.reduceSub, and_self, and_true, true_and, reduceIte, reduceCtorEq, eq_self, implies_true, forall_const, false_implies, imp_self, decide_true, decide_false, t1, t6, t9, t11, t75]) <;> rfl) ((toTripS_is H20 [v1] a1 (((rSlc rTrip)).rdk h1 k0_20) ht1).mono ?_)
  rintro _ H21 ⟨k21, csy11, Fy11, rfl, oy11_21, fy11⟩
  have n21 := k21.nxt
  have gb0_21 := (k21.get H.nxt (by omega)).trans gb0_20
  have k0_21 := k0_20.trans k21
  have or30_21 := ((rSlc rRun)).ownKeep or30_20 k21
  have or70_21 := ((rSlc rRun)).ownKeep or70_20 k21
  have oy10_21 := (rNet).ownKeep oy10_20 k21
  obtain ⟨vy11, rfl⟩ := slc_one (((rSlc rTrip)).ownrd oy11_21)
  simp only [slc_val]
  simp (maxSteps := 4000000) (disch := omega) only [Zq, evO, vbox, wr, Zeq, if_true, if_false, Nat.reduceEqDiff, Nat.reduceAdd, Nat.reduceLeDiff, Nat.reduceSub, and_self, and_true, true_and, reduceIte, reduceCtorEq, eq_self, implies_true, forall_const, false_implies, imp_self, decide_true, decide_false, vbinB_ne, gb0_21, t1, t6, t9, t11, t75]
  refine GO_call_eq (by (simp (maxSteps := 4000000) (disch := omega) only [Zq, evO, vbox, wr, Zeq, if_true, if_false, Nat.reduceEqDiff, Nat.reduceAdd, Nat.reduceLeDiff, Nat.reduceSub, and_self, and_true, true_and, reduceIte, reduceCtorEq, eq_self, implies_true, forall_const, false_implies, imp_self, decide_true, decide_false, t1, t6, t9, t11, t75]) <;> rfl) ((own_law (r_impl_Planned (net_law ((rNet).ownrd oy10_21) ht0).1 (net_law ((rNet).ownrd oy10_21) ht0).2 (((rSlc rTrip)).ownrd oy11_21) ht1)).mono ?_)
  rintro _ H22 ⟨k22, csr120, Fr120, rfl, or120_22, fr120⟩
  have n22 := k22.nxt
  have gb0_22 := (k22.get H.nxt (by omega)).trans gb0_21
  have k0_22 := k0_21.trans k22
  have or30_22 := ((rSlc rRun)).ownKeep or30_21 k22
  have or70_22 := ((rSlc rRun)).ownKeep or70_21 k22
  have oy10_22 := (rNet).ownKeep oy10_21 k22
  have oy11_22 := ((rSlc rTrip)).ownKeep oy11_21 k22
  obtain ⟨vr120, rfl⟩ := slc_one (((rSlc rRun)).ownrd or120_22)
  simp only [slc_val]
  simp (maxSteps := 4000000) (disch := omega) only [Zq, evO, vbox, wr, Zeq, if_true, if_false, Nat.reduceEqDiff, Nat.reduceAdd, Nat.reduceLeDiff, Nat.reduceSub, and_self, and_true, true_and, reduceIte, reduceCtorEq, eq_self, implies_true, forall_const, false_implies, imp_self, decide_true, decide_false, vbinB_ne, gb0_22, t1, t6, t9, t11, t75]
  refine GO_call_eq (by (simp (maxSteps := 4000000) (disch := omega) only [Zq, evO, vbox, wr, Zeq, if_true, if_false, Nat.reduceEqDiff, Nat.reduceAdd, Nat.reduceLeDiff, Nat.reduceSub, and_self, and_true, true_and, reduceIte, reduceCtorEq, eq_self, implies_true, forall_const, false_implies, imp_self, decide_true, decide_false, t1, t6, t9, t11, t75]) <;> rfl) ((eqRunS_is H22 [vr120] [vr30] ((planO a0.1 a0.2 a1)) (((rSlc rRun)).ownrd or120_22) (((rSlc rRun)).ownrd or30_22) (by omega)).mono ?_)
  rintro _ H23 ⟨k23, rfl⟩
  have n23 := k23.nxt
  have gb0_23 := (k23.get H.nxt (by omega)).trans gb0_22
  have k0_23 := k0_22.trans k23
  have or30_23 := ((rSlc rRun)).ownKeep or30_22 k23
  have or70_23 := ((rSlc rRun)).ownKeep or70_22 k23
  have or120_23 := ((rSlc rRun)).ownKeep or120_22 k23
  simp (maxSteps := 4000000) (disch := omega) only [Zq, evO, vbox, wr, Zeq, if_true, if_false, Nat.reduceEqDiff, Nat.reduceAdd, Nat.reduceLeDiff, Nat.reduceSub, and_self, and_true, true_and, reduceIte, reduceCtorEq, eq_self, implies_true, forall_const, false_implies, imp_self, decide_true, decide_false, vbinB_ne, gb0_23, t1, t6, t9, t11, t75]
  first | refine G_fix [11, 84, 85] ?_ | refine GO_fix [11, 84, 85] ?_ | refine cK_fix [11, 84, 85] ?_
  intro T hT
  simp only [fix_nil, fix_cons, Zq, evO, vbox, wr, Zeq, if_true, if_false, Nat.reduceEqDiff, Nat.reduceAdd, Nat.reduceLeDiff, Nat.reduceSub, and_self, and_true, true_and, reduceIte, reduceCtorEq, eq_self, implies_true, forall_const, false_implies, imp_self, decide_true, decide_false, t1, t6, t9, t11, t75] at hT
  obtain ⟨t11, t84, t85⟩ := hT
  refine GO_call_eq (by (simp (maxSteps := 4000000) (disch := omega) only [Zq, evO, vbox, wr, Zeq, if_true, if_false, Nat.reduceEqDiff, Nat.reduceAdd, Nat.reduceLeDiff, Nat.reduceSub, and_self, and_true, true_and, reduceIte, reduceCtorEq, eq_self, implies_true, forall_const, false_implies, imp_self, decide_true, decide_false, t11, t84, t85]) <;> rfl) ((heldRunS_is H23 [vr70] ((planO a0.1 a0.2 a1)) (1) (((rSlc rRun)).ownrd or70_23) (by omega)).mono ?_)
  rintro _ H24 ⟨k24, rfl⟩
  have n24 := k24.nxt
  have gb0_24 := (k24.get H.nxt (by omega)).trans gb0_23
  have k0_24 := k0_23.trans k24
  have or30_24 := ((rSlc rRun)).ownKeep or30_23 k24
  have or70_24 := ((rSlc rRun)).ownKeep or70_23 k24
  have or120_24 := ((rSlc rRun)).ownKeep or120_23 k24
  simp (maxSteps := 4000000) (disch := omega) only [Zq, evO, vbox, wr, Zeq, if_true, if_false, Nat.reduceEqDiff, Nat.reduceAdd, Nat.reduceLeDiff, Nat.reduceSub, and_self, and_true, true_and, reduceIte, reduceCtorEq, eq_self, implies_true, forall_const, false_implies, imp_self, decide_true, decide_false, vbinB_ne, gb0_24, t11, t84, t85]
theorem good_Int {H : Heap} {n : Nat} {xs : List Value} (h : Good Try.prog H n 3 xs) : ∃ a, (rInt).rd H xs a ∧ (rInt).fit a := by
  obtain ⟨z, rfl, _⟩ := good_int (k := .i64) (by kernel_rfl) h
  exact ⟨z, rfl, trivial⟩
theorem good_Edge {H : Heap} {n : Nat} {xs : List Value} (h : Good Try.prog H n 126 xs) : ∃ a, (rEdge).rd H xs a ∧ (rEdge).fit a := by
  have hl := good_cells (c := 4) (by kernel_rfl) (by kernel_rfl) h
  obtain ⟨c0, c1, c2, c3, rfl⟩ : ∃ c0 c1 c2 c3, xs = [c0, c1, c2, c3] := by
    match xs, hl with
    | [c0, c1, c2, c3], _ => exact ⟨c0, c1, c2, c3, rfl⟩
  obtain ⟨_, f0⟩ := good_field (i := 0) (t' := 3) (o := 0) (c := 1) (by kernel_rfl) h
  obtain ⟨y0, r0, t0⟩ := good_Int f0
  obtain ⟨_, f1⟩ := good_field (i := 1) (t' := 3) (o := 1) (c := 1) (by kernel_rfl) h
  obtain ⟨y1, r1, t1⟩ := good_Int f1
  obtain ⟨_, f2⟩ := good_field (i := 2) (t' := 3) (o := 2) (c := 1) (by kernel_rfl) h
  obtain ⟨y2, r2, t2⟩ := good_Int f2
  obtain ⟨_, f3⟩ := good_field (i := 3) (t' := 3) (o := 3) (c := 1) (by kernel_rfl) h
  obtain ⟨y3, r3, t3⟩ := good_Int f3
  have e0 : c0 = .int .i64 y0 := by have := r0; simpa [leafRep] using this
  subst e0
  have e1 : c1 = .int .i64 y1 := by have := r1; simpa [leafRep] using this
  subst e1
  have e2 : c2 = .int .i64 y2 := by have := r2; simpa [leafRep] using this
  subst e2
  have e3 : c3 = .int .i64 y3 := by have := r3; simpa [leafRep] using this
  subst e3
  exact ⟨(y0, y1, y2, y3), rfl, trivial⟩
theorem good_EdgeS {H : Heap} {n : Nat} {xs : List Value} (h : Good Try.prog H n 51 xs) : ∃ a, ((rSlc rEdge)).rd H xs a ∧ ((rSlc rEdge)).fit a :=
  good_slcs (e := 126) (c := 4) (by kernel_rfl) (by kernel_rfl) (fun m row _ hg => good_Edge hg) rfl h
theorem good_Net {H : Heap} {n : Nat} {xs : List Value} (h : Good Try.prog H n 53 xs) : ∃ a, (rNet).rd H xs a ∧ (rNet).fit a := by
  have hl := good_cells (c := 2) (by kernel_rfl) (by kernel_rfl) h
  obtain ⟨c0, c1, rfl⟩ : ∃ c0 c1, xs = [c0, c1] := by
    match xs, hl with
    | [c0, c1], _ => exact ⟨c0, c1, rfl⟩
  obtain ⟨_, f0⟩ := good_field (i := 0) (t' := 3) (o := 0) (c := 1) (by kernel_rfl) h
  obtain ⟨y0, r0, t0⟩ := good_Int f0
  obtain ⟨_, f1⟩ := good_field (i := 1) (t' := 51) (o := 1) (c := 1) (by kernel_rfl) h
  obtain ⟨y1, r1, t1⟩ := good_EdgeS f1
  exact ⟨(y0, y1), ⟨[c0], _, rfl, r0, r1⟩, t0, t1⟩
theorem good_Str {H : Heap} {n : Nat} {xs : List Value} (h : Good Try.prog H n 9 xs) : ∃ a, (rStr).rd H xs a ∧ (rStr).fit a := by
  obtain ⟨z, rfl, hz⟩ := good_str (by kernel_rfl) h
  exact ⟨z, rfl, hz⟩
theorem good_Call {H : Heap} {n : Nat} {xs : List Value} (h : Good Try.prog H n 140 xs) : ∃ a, (rCall).rd H xs a ∧ (rCall).fit a := by
  have hl := good_cells (c := 3) (by kernel_rfl) (by kernel_rfl) h
  obtain ⟨c0, c1, c2, rfl⟩ : ∃ c0 c1 c2, xs = [c0, c1, c2] := by
    match xs, hl with
    | [c0, c1, c2], _ => exact ⟨c0, c1, c2, rfl⟩
  obtain ⟨_, f0⟩ := good_field (i := 0) (t' := 3) (o := 0) (c := 1) (by kernel_rfl) h
  obtain ⟨y0, r0, t0⟩ := good_Int f0
  obtain ⟨_, f1⟩ := good_field (i := 1) (t' := 3) (o := 1) (c := 1) (by kernel_rfl) h
  obtain ⟨y1, r1, t1⟩ := good_Int f1
  obtain ⟨_, f2⟩ := good_field (i := 2) (t' := 3) (o := 2) (c := 1) (by kernel_rfl) h
  obtain ⟨y2, r2, t2⟩ := good_Int f2
  have e0 : c0 = .int .i64 y0 := by have := r0; simpa [leafRep] using this
  subst e0
  have e1 : c1 = .int .i64 y1 := by have := r1; simpa [leafRep] using this
  subst e1
  have e2 : c2 = .int .i64 y2 := by have := r2; simpa [leafRep] using this
  subst e2
  exact ⟨(y0, y1, y2), rfl, trivial⟩
theorem good_CallS {H : Heap} {n : Nat} {xs : List Value} (h : Good Try.prog H n 93 xs) : ∃ a, ((rSlc rCall)).rd H xs a ∧ ((rSlc rCall)).fit a :=
  good_slcs (e := 140) (c := 3) (by kernel_rfl) (by kernel_rfl) (fun m row _ hg => good_Call hg) rfl h
theorem good_Trip {H : Heap} {n : Nat} {xs : List Value} (h : Good Try.prog H n 95 xs) : ∃ a, (rTrip).rd H xs a ∧ (rTrip).fit a := by
  have hl := good_cells (c := 2) (by kernel_rfl) (by kernel_rfl) h
  obtain ⟨c0, c1, rfl⟩ : ∃ c0 c1, xs = [c0, c1] := by
    match xs, hl with
    | [c0, c1], _ => exact ⟨c0, c1, rfl⟩
  obtain ⟨_, f0⟩ := good_field (i := 0) (t' := 9) (o := 0) (c := 1) (by kernel_rfl) h
  obtain ⟨y0, r0, t0⟩ := good_Str f0
  obtain ⟨_, f1⟩ := good_field (i := 1) (t' := 93) (o := 1) (c := 1) (by kernel_rfl) h
  obtain ⟨y1, r1, t1⟩ := good_CallS f1
  exact ⟨(y0, y1), ⟨[c0], _, rfl, r0, r1⟩, t0, t1⟩
theorem good_TripS {H : Heap} {n : Nat} {xs : List Value} (h : Good Try.prog H n 54 xs) : ∃ a, ((rSlc rTrip)).rd H xs a ∧ ((rSlc rTrip)).fit a :=
  good_slcs (e := 95) (c := 2) (by kernel_rfl) (by kernel_rfl) (fun m row _ hg => good_Trip hg) rfl h
theorem go_laws_FnExactPlanned (H : Heap) (xs : List Value) (h : GoodArgs Try.prog H Try.f11.params.toList xs) : ∃ H', CR Try.prog 11 xs H (.bool true) H' := by
  rw [Try.params11] at h
  obtain ⟨w0, l0, rfl, p0, j0⟩ := good_args_cons h
  obtain ⟨w1, l1, rfl, p1, j1⟩ := good_args_cons j0
  obtain rfl := good_args_nil j1
  obtain ⟨ys0, n0, rfl, g0⟩ := goodV_agg (by kernel_rfl) p0
  obtain ⟨a0, e0, t0⟩ := good_Net g0
  obtain ⟨v0_1, rfl, _⟩ := net_rd (x0 := (a0).1) (x1 := (a0).2) e0
  obtain ⟨_, g1⟩ := goodV_one (by kernel_rfl) p1
  obtain ⟨a1, e1, t1⟩ := good_TripS g1
  obtain ⟨r, H', hr, rfl⟩ := r_laws_FnExactPlanned  e0 t0 e1 t1
  exact ⟨H', hr⟩
end Go.Proofs.Ytjjglonmaajjoaa.AX
