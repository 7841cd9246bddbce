/- FnExactScan: the law's run. No condition; of the program: the functions' forms. -/
import Derived.Test.YtiajbefljkikiaaDoorScx
import Derived.Test.YtiajbefljkikiaaDoorRtes
namespace Go.Proofs.YtiajbefljkikiaaDoor.AX
open Go
set_option maxRecDepth 10000
set_option maxHeartbeats 4000000
set_option linter.unusedSimpArgs false
set_option linter.unusedVariables false
theorem sc_law {H : Heap} {f : FuncId} {args : List Value} {D : List Tel × Int} (h : Run Tryd.prog f args H fun r H' => Keep H H' ∧ ScV H H' r D) : Run Tryd.prog f args H fun r H' => Keep H H' ∧ ∃ cs F, r = .tuple #[(rSlc rTelegram).val cs, .int .i64 D.2] ∧ (rSlc rTelegram).own H' cs D.1 F ∧ Fresh H H' F :=
  h.mono (by
    rintro r H' ⟨k, w, F, rfl, o, f⟩
    exact ⟨k, [w], F, rfl, o, f⟩)
theorem dec_tot (d : List Int) : rTelegram.tot ((decI d).1) ≤ 300 := by
  rw [decI]
  split
  · rename_i h
    have h := h.2.2.1
    generalize telL (unI ((d.drop 1).take (d.length - 2))) = t at h
    obtain ⟨a, b, l⟩ := t
    show rTelegram.tot (a, b, l) ≤ 300
    rw [telegram_tot, leaf_tot]
    simp only [okT, okTel, Bool.and_eq_true, decide_eq_true_eq] at h
    omega
  · show rTelegram.tot (0, 0, []) ≤ 300
    rw [telegram_tot, leaf_tot]
    simp
theorem tot_snoc {α : Type} {r : Rep α} (l : List α) (x : α) : (rSlc r).tot (l ++ [x]) = (rSlc r).tot l + 1 + r.tot x := by
  show (l ++ [x]).length + ((l ++ [x]).map r.tot).sum = l.length + (l.map r.tot).sum + 1 + r.tot x
  rw [List.length_append, List.map_append, List.sum_append]
  simp
  omega
theorem scS_tot (a : List Tel × Int) (p : List Int) : (rSlc rTelegram).tot (scS a p).1 ≤ (rSlc rTelegram).tot a.1 + 301 := by
  unfold scS
  split
  · omega
  · split
    · have := dec_tot ((126 : Int) :: p ++ [126])
      simp only [tot_snoc]
      omega
    · simp only
      omega
theorem fold_tot : ∀ (ps : List (List Int)) (a : List Tel × Int), (rSlc rTelegram).tot (ps.foldl scS a).1 ≤ (rSlc rTelegram).tot a.1 + 301 * ps.length
  | [], a => by simp
  | p :: ps, a => by
    rw [List.foldl_cons, List.length_cons]
    have h1 := fold_tot ps (scS a p)
    have h2 := scS_tot a p
    omega
theorem sc_tot (xs : List Int) : (rSlc rTelegram).tot (scR xs).1 ≤ 1000000 := by
  unfold scR
  split
  · rename_i h
    have h1 := fold_tot (spl xs) ([], 0)
    rw [spl_len] at h1
    have h2 : xs.count 126 ≤ xs.length := List.count_le_length
    have h3 : (rSlc rTelegram).tot ([] : List Tel) = 0 := rfl
    unfold scL
    simp only [h3] at h1
    omega
  · have h3 : (rSlc rTelegram).tot ([] : List Tel) = 0 := rfl
    simp only [h3]
    omega
theorem r_laws_FnExactScan {H : Heap} {v0 : Value} {a0 : List Int} (h0 : ((rSlc rByte)).rd H [v0] a0) (fit0 : ((rSlc rByte)).fit a0) (hc : ∀ x ∈ a0, isB x) : Run Tryd.prog 4 [v0] H fun r _ => r = .bool true := by
  refine Run.intro c4 rfl ?_
  by_cases hb0 : a0.length ≤ 1048576
  rotate_left
  · simp (maxSteps := 4000000) (disch := omega) only [Zq, evO, vbox, wr, Zeq, if_true, if_false, Nat.reduceEqDiff, Nat.reduceAdd, Nat.reduceLeDiff, Nat.reduceSub, and_self, and_true, true_and, reduceIte, reduceCtorEq, eq_self, implies_true, forall_const, false_implies, imp_self, decide_true, decide_false, x4, slc_len h0]
  have ht0 : ((rSlc rByte)).tot a0 ≤ 1048576 := by rw [leaf_tot]; omega
  simp (maxSteps := 4000000) (disch := omega) only [Zq, evO, vbox, wr, Zeq, if_true, if_false, Nat.reduceEqDiff, Nat.reduceAdd, Nat.reduceLeDiff, Nat.reduceSub, and_self, and_true, true_and, reduceIte, reduceCtorEq, eq_self, implies_true, forall_const, false_implies, imp_self, decide_true, decide_false, x4, slc_len h0]
  obtain ⟨H0, e0⟩ : ∃ H0, H0 = H := ⟨_, rfl⟩
  rw [← e0]
  have k0_0 : Keep H H0 := by rw [e0]; exact Keep.refl H
  have n0_0 := k0_0.nxt
  refine GO_call ((toByteS_is H0 [v0] a0 (((rSlc rByte)).rdk h0 k0_0) ht0).mono ?_)
  rintro _ H1 ⟨k1, csy1, Fy1, rfl, oy1_1, fy1⟩
  have n1 := k1.nxt
  have k0_1 := k0_0.trans k1
  obtain ⟨vy1, rfl⟩ := slc_one (((rSlc rByte)).ownrd oy1_1)
  simp only [slc_val]
  simp (maxSteps := 4000000) (disch := omega) only [Zq, evO, vbox, wr, Zeq, if_true, if_false, Nat.reduceEqDiff, Nat.reduceAdd, Nat.reduceLeDiff, Nat.reduceSub, and_self, and_true, true_and, reduceIte, reduceCtorEq, eq_self, implies_true, forall_const, false_implies, imp_self, decide_true, decide_false, vbinB_ne]
  have hR0 : (rSlc rTelegram).tot ((scR a0).1) ≤ 1000000 := sc_tot _
  refine GO_call ((sc_law (r_spec_Scan (bts_of (((rSlc rByte)).ownrd oy1_1)) hc (by have := tot_len ht0; omega))).mono ?_)
  rintro _ H2 ⟨k2, csr20, Fr20, rfl, or20_2, fr20⟩
  have n2 := k2.nxt
  have k0_2 := k0_1.trans k2
  have oy1_2 := ((rSlc rByte)).ownKeep oy1_1 k2
  obtain ⟨vr20, rfl⟩ := slc_one (((rSlc rTelegram)).ownrd or20_2)
  simp only [slc_val]
  simp (maxSteps := 4000000) (disch := omega) only [Zq, evO, vbox, wr, Zeq, if_true, if_false, Nat.reduceEqDiff, Nat.reduceAdd, Nat.reduceLeDiff, Nat.reduceSub, and_self, and_true, true_and, reduceIte, reduceCtorEq, eq_self, implies_true, forall_const, false_implies, imp_self, decide_true, decide_false, vbinB_ne]
  first | refine G_fix [0, 3, 4, 22] ?_ | refine GO_fix [0, 3, 4, 22] ?_ | refine cK_fix [0, 3, 4, 22] ?_
  intro T hT
  simp only [fix_nil, fix_cons, Zq, evO, vbox, wr, Zeq, if_true, if_false, Nat.reduceEqDiff, Nat.reduceAdd, Nat.reduceLeDiff, Nat.reduceSub, and_self, and_true, true_and, reduceIte, reduceCtorEq, eq_self, implies_true, forall_const, false_implies, imp_self, decide_true, decide_false] at hT
  obtain ⟨t0, t3, t4, t22⟩ := hT
  refine GO_call_eq (by (simp (maxSteps := 4000000) (disch := omega) only [Zq, evO, vbox, wr, Zeq, if_true, if_false, Nat.reduceEqDiff, Nat.reduceAdd, Nat.reduceLeDiff, Nat.reduceSub, and_self, and_true, true_and, reduceIte, reduceCtorEq, eq_self, implies_true, forall_const, false_implies, imp_self, decide_true, decide_false, t0, t3, t4, t22]) <;> rfl) ((toByteS_is H2 [v0] a0 (((rSlc rByte)).rdk h0 k0_2) ht0).mono ?_)
  rintro _ H3 ⟨k3, csy3, Fy3, rfl, oy3_3, fy3⟩
  have n3 := k3.nxt
  have k0_3 := k0_2.trans k3
  have or20_3 := ((rSlc rTelegram)).ownKeep or20_2 k3
  obtain ⟨vy3, rfl⟩ := slc_one (((rSlc rByte)).ownrd oy3_3)
  simp only [slc_val]
  simp (maxSteps := 4000000) (disch := omega) only [Zq, evO, vbox, wr, Zeq, if_true, if_false, Nat.reduceEqDiff, Nat.reduceAdd, Nat.reduceLeDiff, Nat.reduceSub, and_self, and_true, true_and, reduceIte, reduceCtorEq, eq_self, implies_true, forall_const, false_implies, imp_self, decide_true, decide_false, vbinB_ne, t0, t3, t4, t22]
  refine GO_call_eq (by (simp (maxSteps := 4000000) (disch := omega) only [Zq, evO, vbox, wr, Zeq, if_true, if_false, Nat.reduceEqDiff, Nat.reduceAdd, Nat.reduceLeDiff, Nat.reduceSub, and_self, and_true, true_and, reduceIte, reduceCtorEq, eq_self, implies_true, forall_const, false_implies, imp_self, decide_true, decide_false, t0, t3, t4, t22]) <;> rfl) ((sc_law (r_impl_Scan (bts_of (((rSlc rByte)).ownrd oy3_3)) hc (by have := tot_len ht0; omega))).mono ?_)
  rintro _ H4 ⟨k4, csr40, Fr40, rfl, or40_4, fr40⟩
  have n4 := k4.nxt
  have k0_4 := k0_3.trans k4
  have or20_4 := ((rSlc rTelegram)).ownKeep or20_3 k4
  have oy3_4 := ((rSlc rByte)).ownKeep oy3_3 k4
  obtain ⟨vr40, rfl⟩ := slc_one (((rSlc rTelegram)).ownrd or40_4)
  simp only [slc_val]
  simp (maxSteps := 4000000) (disch := omega) only [Zq, evO, vbox, wr, Zeq, if_true, if_false, Nat.reduceEqDiff, Nat.reduceAdd, Nat.reduceLeDiff, Nat.reduceSub, and_self, and_true, true_and, reduceIte, reduceCtorEq, eq_self, implies_true, forall_const, false_implies, imp_self, decide_true, decide_false, vbinB_ne, t0, t3, t4, t22]
  first | refine G_fix [0, 3, 4, 5, 6, 7, 29, 30] ?_ | refine GO_fix [0, 3, 4, 5, 6, 7, 29, 30] ?_ | refine cK_fix [0, 3, 4, 5, 6, 7, 29, 30] ?_
  intro T hT
  simp only [fix_nil, fix_cons, Zq, evO, vbox, wr, Zeq, if_true, if_false, Nat.reduceEqDiff, Nat.reduceAdd, Nat.reduceLeDiff, Nat.reduceSub, and_self, and_true, true_and, reduceIte, reduceCtorEq, eq_self, implies_true, forall_const, false_implies, imp_self, decide_true, decide_false, t0, t3, t4, t22] at hT
  obtain ⟨t0, t3, t4, t5, t6, t7, t29, t30⟩ := hT
  refine GO_call_eq (by (simp (maxSteps := 4000000) (disch := omega) only [Zq, evO, vbox, wr, Zeq, if_true, if_false, Nat.reduceEqDiff, Nat.reduceAdd, Nat.reduceLeDiff, Nat.reduceSub, and_self, and_true, true_and, reduceIte, reduceCtorEq, eq_self, implies_true, forall_const, false_implies, imp_self, decide_true, decide_false, t0, t3, t4, t5, t6, t7, t29, t30]) <;> rfl) ((eqTelegramS_is H4 [vr40] [vr20] ((scR a0).1) (((rSlc rTelegram)).ownrd or40_4) (((rSlc rTelegram)).ownrd or20_4) (by omega)).mono ?_)
  rintro _ H5 ⟨k5, rfl⟩
  have n5 := k5.nxt
  have k0_5 := k0_4.trans k5
  have or20_5 := ((rSlc rTelegram)).ownKeep or20_4 k5
  have oy3_5 := ((rSlc rByte)).ownKeep oy3_4 k5
  have or40_5 := ((rSlc rTelegram)).ownKeep or40_4 k5
  simp (maxSteps := 4000000) (disch := omega) only [Zq, evO, vbox, wr, Zeq, if_true, if_false, Nat.reduceEqDiff, Nat.reduceAdd, Nat.reduceLeDiff, Nat.reduceSub, and_self, and_true, true_and, reduceIte, reduceCtorEq, eq_self, implies_true, forall_const, false_implies, imp_self, decide_true, decide_false, vbinB_ne, t0, t3, t4, t5, t6, t7, t29, t30]
  first | refine G_fix [0, 3, 4, 5, 6, 7, 38, 39] ?_ | refine GO_fix [0, 3, 4, 5, 6, 7, 38, 39] ?_ | refine cK_fix [0, 3, 4, 5, 6, 7, 38, 39] ?_
  intro T hT
  simp only [fix_nil, fix_cons, Zq, evO, vbox, wr, Zeq, if_true, if_false, Nat.reduceEqDiff, Nat.reduceAdd, Nat.reduceLeDiff, Nat.reduceSub, and_self, and_true, true_and, reduceIte, reduceCtorEq, eq_self, implies_true, forall_const, false_implies, imp_self, decide_true, decide_false, t0, t3, t4, t5, t6, t7, t29, t30] at hT
  obtain ⟨t0, t3, t4, t5, t6, t7, t38, t39⟩ := hT
  refine GO_call_eq (by (simp (maxSteps := 4000000) (disch := omega) only [Zq, evO, vbox, wr, Zeq, if_true, if_false, Nat.reduceEqDiff, Nat.reduceAdd, Nat.reduceLeDiff, Nat.reduceSub, and_self, and_true, true_and, reduceIte, reduceCtorEq, eq_self, implies_true, forall_const, false_implies, imp_self, decide_true, decide_false, t0, t3, t4, t5, t6, t7, t38, t39]) <;> rfl) ((toByteS_is H5 [v0] a0 (((rSlc rByte)).rdk h0 k0_5) ht0).mono ?_)
  rintro _ H6 ⟨k6, csy5, Fy5, rfl, oy5_6, fy5⟩
  have n6 := k6.nxt
  have k0_6 := k0_5.trans k6
  have or20_6 := ((rSlc rTelegram)).ownKeep or20_5 k6
  have oy3_6 := ((rSlc rByte)).ownKeep oy3_5 k6
  have or40_6 := ((rSlc rTelegram)).ownKeep or40_5 k6
  obtain ⟨vy5, rfl⟩ := slc_one (((rSlc rByte)).ownrd oy5_6)
  simp only [slc_val]
  simp (maxSteps := 4000000) (disch := omega) only [Zq, evO, vbox, wr, Zeq, if_true, if_false, Nat.reduceEqDiff, Nat.reduceAdd, Nat.reduceLeDiff, Nat.reduceSub, and_self, and_true, true_and, reduceIte, reduceCtorEq, eq_self, implies_true, forall_const, false_implies, imp_self, decide_true, decide_false, vbinB_ne, t0, t3, t4, t5, t6, t7, t38, t39]
  refine GO_call_eq (by (simp (maxSteps := 4000000) (disch := omega) only [Zq, evO, vbox, wr, Zeq, if_true, if_false, Nat.reduceEqDiff, Nat.reduceAdd, Nat.reduceLeDiff, Nat.reduceSub, and_self, and_true, true_and, reduceIte, reduceCtorEq, eq_self, implies_true, forall_const, false_implies, imp_self, decide_true, decide_false, t0, t3, t4, t5, t6, t7, t38, t39]) <;> rfl) ((eqByteS_is H6 [vy3] [vy5] (a0) (((rSlc rByte)).ownrd oy3_6) (((rSlc rByte)).ownrd oy5_6) (by omega)).mono ?_)
  rintro _ H7 ⟨k7, rfl⟩
  have n7 := k7.nxt
  have k0_7 := k0_6.trans k7
  have or20_7 := ((rSlc rTelegram)).ownKeep or20_6 k7
  have oy3_7 := ((rSlc rByte)).ownKeep oy3_6 k7
  have or40_7 := ((rSlc rTelegram)).ownKeep or40_6 k7
  have oy5_7 := ((rSlc rByte)).ownKeep oy5_6 k7
  simp (maxSteps := 4000000) (disch := omega) only [Zq, evO, vbox, wr, Zeq, if_true, if_false, Nat.reduceEqDiff, Nat.reduceAdd, Nat.reduceLeDiff, Nat.reduceSub, and_self, and_true, true_and, reduceIte, reduceCtorEq, eq_self, implies_true, forall_const, false_implies, imp_self, decide_true, decide_false, vbinB_ne, t0, t3, t4, t5, t6, t7, t38, t39]
  have hm8 := mar_le MarB.byte (a0) (1)
  refine GO_call_eq (by (simp (maxSteps := 4000000) (disch := omega) only [Zq, evO, vbox, wr, Zeq, if_true, if_false, Nat.reduceEqDiff, Nat.reduceAdd, Nat.reduceLeDiff, Nat.reduceSub, and_self, and_true, true_and, reduceIte, reduceCtorEq, eq_self, implies_true, forall_const, false_implies, imp_self, decide_true, decide_false, t0, t3, t4, t5, t6, t7, t38, t39]) <;> rfl) ((markByteS_is H7 [vy3] (a0) Fy3 (1) oy3_7 fy3.1 (by omega)).mono ?_)
  rintro _ H8 ⟨c8, oy3_8, rfl⟩
  have n8 := c8.nxt
  have k0_8 := c8.keep k0_7 (fun i hi => by have := fy3.2 i hi; omega)
  have or20_8 := ((rSlc rTelegram)).ownChg or20_7 c8 (fun i hi hm => by have := fr20.2 i hi; have := fy3.2 i hm; omega)
  have or40_8 := ((rSlc rTelegram)).ownChg or40_7 c8 (fun i hi hm => by have := fr40.2 i hi; have := fy3.2 i hm; omega)
  simp (maxSteps := 4000000) (disch := omega) only [Zq, evO, vbox, wr, Zeq, if_true, if_false, Nat.reduceEqDiff, Nat.reduceAdd, Nat.reduceLeDiff, Nat.reduceSub, and_self, and_true, true_and, reduceIte, reduceCtorEq, eq_self, implies_true, forall_const, false_implies, imp_self, decide_true, decide_false, vbinB_ne, t0, t3, t4, t5, t6, t7, t38, t39]
  first | refine G_fix [0, 3, 4, 6, 7, 48, 49, 50] ?_ | refine GO_fix [0, 3, 4, 6, 7, 48, 49, 50] ?_ | refine cK_fix [0, 3, 4, 6, 7, 48, 49, 50] ?_
  intro T hT
  simp only [fix_nil, fix_cons, Zq, evO, vbox, wr, Zeq, if_true, if_false, Nat.reduceEqDiff, Nat.reduceAdd, Nat.reduceLeDiff, Nat.reduceSub, and_self, and_true, true_and, reduceIte, reduceCtorEq, eq_self, implies_true, forall_const, false_implies, imp_self, decide_true, decide_false, t0, t3, t4, t5, t6, t7, t38, t39] at hT
  obtain ⟨t0, t3, t4, t6, t7, t48, t49, t50⟩ := hT
  refine GO_call_eq (by (simp (maxSteps := 4000000) (disch := omega) only [Zq, evO, vbox, wr, Zeq, if_true, if_false, Nat.reduceEqDiff, Nat.reduceAdd, Nat.reduceLeDiff, Nat.reduceSub, and_self, and_true, true_and, reduceIte, reduceCtorEq, eq_self, implies_true, forall_const, false_implies, imp_self, decide_true, decide_false, t0, t3, t4, t6, t7, t48, t49, t50]) <;> rfl) ((eqTelegramS_is H8 [vr40] [vr20] ((scR a0).1) (((rSlc rTelegram)).ownrd or40_8) (((rSlc rTelegram)).ownrd or20_8) (by omega)).mono ?_)
  rintro _ H9 ⟨k9, rfl⟩
  have n9 := k9.nxt
  have k0_9 := k0_8.trans k9
  have or20_9 := ((rSlc rTelegram)).ownKeep or20_8 k9
  have or40_9 := ((rSlc rTelegram)).ownKeep or40_8 k9
  simp (maxSteps := 4000000) (disch := omega) only [Zq, evO, vbox, wr, Zeq, if_true, if_false, Nat.reduceEqDiff, Nat.reduceAdd, Nat.reduceLeDiff, Nat.reduceSub, and_self, and_true, true_and, reduceIte, reduceCtorEq, eq_self, implies_true, forall_const, false_implies, imp_self, decide_true, decide_false, vbinB_ne, t0, t3, t4, t6, t7, t48, t49, t50]
  first | refine G_fix [0, 3, 4, 6, 59, 60] ?_ | refine GO_fix [0, 3, 4, 6, 59, 60] ?_ | refine cK_fix [0, 3, 4, 6, 59, 60] ?_
  intro T hT
  simp only [fix_nil, fix_cons, Zq, evO, vbox, wr, Zeq, if_true, if_false, Nat.reduceEqDiff, Nat.reduceAdd, Nat.reduceLeDiff, Nat.reduceSub, and_self, and_true, true_and, reduceIte, reduceCtorEq, eq_self, implies_true, forall_const, false_implies, imp_self, decide_true, decide_false, t0, t3, t4, t6, t7, t48, t49, t50] at hT
  obtain ⟨t0, t3, t4, t6, t59, t60⟩ := hT
  have hm10 := mar_le marB_Telegram ((scR a0).1) (1)
  refine GO_call_eq (by (simp (maxSteps := 4000000) (disch := omega) only [Zq, evO, vbox, wr, Zeq, if_true, if_false, Nat.reduceEqDiff, Nat.reduceAdd, Nat.reduceLeDiff, Nat.reduceSub, and_self, and_true, true_and, reduceIte, reduceCtorEq, eq_self, implies_true, forall_const, false_implies, imp_self, decide_true, decide_false, t0, t3, t4, t6, t59, t60]) <;> rfl) ((markTelegramS_is H9 [vr40] ((scR a0).1) Fr40 (1) or40_9 fr40.1 (by omega)).mono ?_)
  rintro _ H10 ⟨c10, or40_10, rfl⟩
  have n10 := c10.nxt
  have k0_10 := c10.keep k0_9 (fun i hi => by have := fr40.2 i hi; omega)
  have or20_10 := ((rSlc rTelegram)).ownChg or20_9 c10 (fun i hi hm => by have := fr20.2 i hi; have := fr40.2 i hm; omega)
  simp (maxSteps := 4000000) (disch := omega) only [Zq, evO, vbox, wr, Zeq, if_true, if_false, Nat.reduceEqDiff, Nat.reduceAdd, Nat.reduceLeDiff, Nat.reduceSub, and_self, and_true, true_and, reduceIte, reduceCtorEq, eq_self, implies_true, forall_const, false_implies, imp_self, decide_true, decide_false, vbinB_ne, t0, t3, t4, t6, t59, t60]
  refine GO_call_eq (by (simp (maxSteps := 4000000) (disch := omega) only [Zq, evO, vbox, wr, Zeq, if_true, if_false, Nat.reduceEqDiff, Nat.reduceAdd, Nat.reduceLeDiff, Nat.reduceSub, and_self, and_true, true_and, reduceIte, reduceCtorEq, eq_self, implies_true, forall_const, false_implies, imp_self, decide_true, decide_false, t0, t3, t4, t6, t59, t60]) <;> rfl) ((heldTelegramS_is H10 [vr40] ((scR a0).1) (1) (((rSlc rTelegram)).ownrd or40_10) (by omega)).mono ?_)
  rintro _ H11 ⟨k11, rfl⟩
  have n11 := k11.nxt
  have k0_11 := k0_10.trans k11
  have or20_11 := ((rSlc rTelegram)).ownKeep or20_10 k11
  have or40_11 := ((rSlc rTelegram)).ownKeep or40_10 k11
  simp (maxSteps := 4000000) (disch := omega) only [Zq, evO, vbox, wr, Zeq, if_true, if_false, Nat.reduceEqDiff, Nat.reduceAdd, Nat.reduceLeDiff, Nat.reduceSub, and_self, and_true, true_and, reduceIte, reduceCtorEq, eq_self, implies_true, forall_const, false_implies, imp_self, decide_true, decide_false, vbinB_ne, t0, t3, t4, t6, t59, t60]
  first | refine G_fix [3, 4, 6, 9, 71] ?_ | refine GO_fix [3, 4, 6, 9, 71] ?_ | refine cK_fix [3, 4, 6, 9, 71] ?_
  intro T hT
  simp only [fix_nil, fix_cons, Zq, evO, vbox, wr, Zeq, if_true, if_false, Nat.reduceEqDiff, Nat.reduceAdd, Nat.reduceLeDiff, Nat.reduceSub, and_self, and_true, true_and, reduceIte, reduceCtorEq, eq_self, implies_true, forall_const, false_implies, imp_self, decide_true, decide_false, t0, t3, t4, t6, t59, t60] at hT
  obtain ⟨t3, t4, t6, t9, t71⟩ := hT
  refine GO_call_eq (by (simp (maxSteps := 4000000) (disch := omega) only [Zq, evO, vbox, wr, Zeq, if_true, if_false, Nat.reduceEqDiff, Nat.reduceAdd, Nat.reduceLeDiff, Nat.reduceSub, and_self, and_true, true_and, reduceIte, reduceCtorEq, eq_self, implies_true, forall_const, false_implies, imp_self, decide_true, decide_false, t3, t4, t6, t9, t71]) <;> rfl) ((toByteS_is H11 [v0] a0 (((rSlc rByte)).rdk h0 k0_11) ht0).mono ?_)
  rintro _ H12 ⟨k12, csy6, Fy6, rfl, oy6_12, fy6⟩
  have n12 := k12.nxt
  have k0_12 := k0_11.trans k12
  have or20_12 := ((rSlc rTelegram)).ownKeep or20_11 k12
  have or40_12 := ((rSlc rTelegram)).ownKeep or40_11 k12
  obtain ⟨vy6, rfl⟩ := slc_one (((rSlc rByte)).ownrd oy6_12)
  simp only [slc_val]
  simp (maxSteps := 4000000) (disch := omega) only [Zq, evO, vbox, wr, Zeq, if_true, if_false, Nat.reduceEqDiff, Nat.reduceAdd, Nat.reduceLeDiff, Nat.reduceSub, and_self, and_true, true_and, reduceIte, reduceCtorEq, eq_self, implies_true, forall_const, false_implies, imp_self, decide_true, decide_false, vbinB_ne, t3, t4, t6, t9, t71]
  refine GO_call_eq (by (simp (maxSteps := 4000000) (disch := omega) only [Zq, evO, vbox, wr, Zeq, if_true, if_false, Nat.reduceEqDiff, Nat.reduceAdd, Nat.reduceLeDiff, Nat.reduceSub, and_self, and_true, true_and, reduceIte, reduceCtorEq, eq_self, implies_true, forall_const, false_implies, imp_self, decide_true, decide_false, t3, t4, t6, t9, t71]) <;> rfl) ((sc_law (r_impl_Scan (bts_of (((rSlc rByte)).ownrd oy6_12)) hc (by have := tot_len ht0; omega))).mono ?_)
  rintro _ H13 ⟨k13, csr70, Fr70, rfl, or70_13, fr70⟩
  have n13 := k13.nxt
  have k0_13 := k0_12.trans k13
  have or20_13 := ((rSlc rTelegram)).ownKeep or20_12 k13
  have or40_13 := ((rSlc rTelegram)).ownKeep or40_12 k13
  have oy6_13 := ((rSlc rByte)).ownKeep oy6_12 k13
  obtain ⟨vr70, rfl⟩ := slc_one (((rSlc rTelegram)).ownrd or70_13)
  simp only [slc_val]
  simp (maxSteps := 4000000) (disch := omega) only [Zq, evO, vbox, wr, Zeq, if_true, if_false, Nat.reduceEqDiff, Nat.reduceAdd, Nat.reduceLeDiff, Nat.reduceSub, and_self, and_true, true_and, reduceIte, reduceCtorEq, eq_self, implies_true, forall_const, false_implies, imp_self, decide_true, decide_false, vbinB_ne, t3, t4, t6, t9, t71]
  first | refine G_fix [4, 6, 9, 12, 76, 77] ?_ | refine GO_fix [4, 6, 9, 12, 76, 77] ?_ | refine cK_fix [4, 6, 9, 12, 76, 77] ?_
  intro T hT
  simp only [fix_nil, fix_cons, Zq, evO, vbox, wr, Zeq, if_true, if_false, Nat.reduceEqDiff, Nat.reduceAdd, Nat.reduceLeDiff, Nat.reduceSub, and_self, and_true, true_and, reduceIte, reduceCtorEq, eq_self, implies_true, forall_const, false_implies, imp_self, decide_true, decide_false, t3, t4, t6, t9, t71] at hT
  obtain ⟨t4, t6, t9, t12, t76, t77⟩ := hT
  refine GO_call_eq (by (simp (maxSteps := 4000000) (disch := omega) only [Zq, evO, vbox, wr, Zeq, if_true, if_false, Nat.reduceEqDiff, Nat.reduceAdd, Nat.reduceLeDiff, Nat.reduceSub, and_self, and_true, true_and, reduceIte, reduceCtorEq, eq_self, implies_true, forall_const, false_implies, imp_self, decide_true, decide_false, t4, t6, t9, t12, t76, t77]) <;> rfl) ((eqTelegramS_is H13 [vr70] [vr20] ((scR a0).1) (((rSlc rTelegram)).ownrd or70_13) (((rSlc rTelegram)).ownrd or20_13) (by omega)).mono ?_)
  rintro _ H14 ⟨k14, rfl⟩
  have n14 := k14.nxt
  have k0_14 := k0_13.trans k14
  have or20_14 := ((rSlc rTelegram)).ownKeep or20_13 k14
  have or40_14 := ((rSlc rTelegram)).ownKeep or40_13 k14
  have or70_14 := ((rSlc rTelegram)).ownKeep or70_13 k14
  simp (maxSteps := 4000000) (disch := omega) only [Zq, evO, vbox, wr, Zeq, if_true, if_false, Nat.reduceEqDiff, Nat.reduceAdd, Nat.reduceLeDiff, Nat.reduceSub, and_self, and_true, true_and, reduceIte, reduceCtorEq, eq_self, implies_true, forall_const, false_implies, imp_self, decide_true, decide_false, vbinB_ne, t4, t6, t9, t12, t76, t77]
  first | refine G_fix [9, 85, 86] ?_ | refine GO_fix [9, 85, 86] ?_ | refine cK_fix [9, 85, 86] ?_
  intro T hT
  simp only [fix_nil, fix_cons, Zq, evO, vbox, wr, Zeq, if_true, if_false, Nat.reduceEqDiff, Nat.reduceAdd, Nat.reduceLeDiff, Nat.reduceSub, and_self, and_true, true_and, reduceIte, reduceCtorEq, eq_self, implies_true, forall_const, false_implies, imp_self, decide_true, decide_false, t4, t6, t9, t12, t76, t77] at hT
  obtain ⟨t9, t85, t86⟩ := hT
  refine GO_call_eq (by (simp (maxSteps := 4000000) (disch := omega) only [Zq, evO, vbox, wr, Zeq, if_true, if_false, Nat.reduceEqDiff, Nat.reduceAdd, Nat.reduceLeDiff, Nat.reduceSub, and_self, and_true, true_and, reduceIte, reduceCtorEq, eq_self, implies_true, forall_const, false_implies, imp_self, decide_true, decide_false, t9, t85, t86]) <;> rfl) ((heldTelegramS_is H14 [vr40] ((scR a0).1) (1) (((rSlc rTelegram)).ownrd or40_14) (by omega)).mono ?_)
  rintro _ H15 ⟨k15, rfl⟩
  have n15 := k15.nxt
  have k0_15 := k0_14.trans k15
  have or20_15 := ((rSlc rTelegram)).ownKeep or20_14 k15
  have or40_15 := ((rSlc rTelegram)).ownKeep or40_14 k15
  have or70_15 := ((rSlc rTelegram)).ownKeep or70_14 k15
  simp (maxSteps := 4000000) (disch := omega) only [Zq, evO, vbox, wr, Zeq, if_true, if_false, Nat.reduceEqDiff, Nat.reduceAdd, Nat.reduceLeDiff, Nat.reduceSub, and_self, and_true, true_and, reduceIte, reduceCtorEq, eq_self, implies_true, forall_const, false_implies, imp_self, decide_true, decide_false, vbinB_ne, t9, t85, t86]
theorem go_laws_FnExactScan (H : Heap) (xs : List Value) (h : GoodArgs Tryd.prog H Tryd.f4.params.toList xs) : ∃ H', CR Tryd.prog 4 xs H (.bool true) H' := by
  rw [Tryd.params4] at h
  obtain ⟨v, l, rfl, h1, h2⟩ := good_args_cons h
  obtain rfl := good_args_nil h2
  obtain ⟨_, g⟩ := goodV_one (by kernel_rfl) h1
  obtain ⟨w, code, e, hi, hm, hwf⟩ := good_ints (e := 5) (k := .u8) (by kernel_rfl) (by kernel_rfl) (by kernel_rfl) g
  simp at e
  subst e
  obtain ⟨r, H', hr, rfl⟩ := r_laws_FnExactScan (of_bts hi) ⟨Nat.le_trans hm (by decide), fun _ _ => trivial⟩ (fun x hx => wf8 (hwf x hx))
  exact ⟨H', hr⟩
end Go.Proofs.YtiajbefljkikiaaDoor.AX
