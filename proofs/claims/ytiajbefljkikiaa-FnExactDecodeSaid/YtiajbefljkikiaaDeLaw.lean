/- FnExactDecode: the law's run. No condition; of the program: the functions' forms. -/
import Derived.Test.YtiajbefljkikiaaDcy
import Derived.Test.YtiajbefljkikiaaRtel
import Derived.Test.YtiajbefljkikiaaAXzg
namespace Go.Proofs.Ytiajbefljkikiaa.AX
open Go
set_option maxRecDepth 10000
set_option maxHeartbeats 4000000
set_option linter.unusedSimpArgs false
set_option linter.unusedVariables false
theorem dec_law {H : Heap} {f : FuncId} {args : List Value} {D E : Tel × Bool} (hDE : E = D) (h : Run Try.prog f args H fun r H' => Keep H H' ∧ DecV H H' r E) : Run Try.prog f args H fun r H' => Keep H H' ∧ ∃ cs F, r = .tuple #[rTelegram.val cs, .bool D.2] ∧ rTelegram.own H' cs D.1 F ∧ Fresh H H' F :=
  h.mono (by
    rintro r H' ⟨k, w, F, rfl, o, f⟩
    subst hDE
    exact ⟨k, [.int .i64 E.1.1, .int .i64 E.1.2.1, w], F, rfl, telegram_own' o, f⟩)
theorem dec_tot (d : List Int) : rTelegram.tot ((decI d).1) ≤ 300 := by
  rw [decI]
  split
  · rename_i h
    have h := h.2.2.1
    generalize telL (unI ((d.drop 1).take (d.length - 2))) = t at h
    obtain ⟨a, b, l⟩ := t
    show rTelegram.tot (a, b, l) ≤ 300
    rw [telegram_tot, leaf_tot]
    simp only [okT, okTel, Bool.and_eq_true, decide_eq_true_eq] at h
    omega
  · show rTelegram.tot (0, 0, []) ≤ 300
    rw [telegram_tot, leaf_tot]
    simp
theorem mar_Telegram (x : Int × Int × (List Int)) (k : Nat) : (mTelegram x k).2 ≤ k + 99 * rTelegram.tot x := by
  obtain ⟨x0, x1, x2⟩ := x
  rw [telegram_tot]
  simp only [mTelegram]
  have b2 := mar_le MarB.byte x2 (k)
  omega
theorem r_laws_FnExactDecode {H : Heap} {v0 : Value} {a0 : List Int} (h0 : ((rSlc rByte)).rd H [v0] a0) (fit0 : ((rSlc rByte)).fit a0) (hc : ∀ x ∈ a0, isB x) : Run Try.prog 5 [v0] H fun r _ => r = .bool true := by
  refine Run.intro c5 rfl ?_
  by_cases hb0 : a0.length ≤ 1048576
  rotate_left
  · simp (maxSteps := 4000000) (disch := omega) only [Zq, evO, vbox, wr, Zeq, if_true, if_false, Nat.reduceEqDiff, Nat.reduceAdd, Nat.reduceLeDiff, Nat.reduceSub, and_self, and_true, true_and, reduceIte, reduceCtorEq, eq_self, implies_true, forall_const, false_implies, imp_self, decide_true, decide_false, x5, slc_len h0]
  have ht0 : ((rSlc rByte)).tot a0 ≤ 1048576 := by rw [leaf_tot]; omega
  simp (maxSteps := 4000000) (disch := omega) only [Zq, evO, vbox, wr, Zeq, if_true, if_false, Nat.reduceEqDiff, Nat.reduceAdd, Nat.reduceLeDiff, Nat.reduceSub, and_self, and_true, true_and, reduceIte, reduceCtorEq, eq_self, implies_true, forall_const, false_implies, imp_self, decide_true, decide_false, x5, slc_len h0]
  obtain ⟨H0, e0⟩ : ∃ H0, H0 = H := ⟨_, rfl⟩
  rw [← e0]
  have k0_0 : Keep H H0 := by rw [e0]; exact Keep.refl H
  have n0_0 := k0_0.nxt
  refine GO_call ((toByteS_is H0 [v0] a0 (((rSlc rByte)).rdk h0 k0_0) ht0).mono ?_)
  rintro _ H1 ⟨k1, csy1, Fy1, rfl, oy1_1, fy1⟩
  have n1 := k1.nxt
  have k0_1 := k0_0.trans k1
  obtain ⟨vy1, rfl⟩ := slc_one (((rSlc rByte)).ownrd oy1_1)
  simp only [slc_val]
  simp (maxSteps := 4000000) (disch := omega) only [Zq, evO, vbox, wr, Zeq, if_true, if_false, Nat.reduceEqDiff, Nat.reduceAdd, Nat.reduceLeDiff, Nat.reduceSub, and_self, and_true, true_and, reduceIte, reduceCtorEq, eq_self, implies_true, forall_const, false_implies, imp_self, decide_true, decide_false, vbinB_ne]
  have hR0 : rTelegram.tot ((decI a0).1) ≤ 300 := dec_tot _
  refine GO_call ((dec_law (dec_same hc) (r_spec_Decode (bts_of (((rSlc rByte)).ownrd oy1_1)) (tot_len ht0) hc)).mono ?_)
  rintro _ H2 ⟨k2, csr20, Fr20, rfl, or20_2, fr20⟩
  have n2 := k2.nxt
  have k0_2 := k0_1.trans k2
  have oy1_2 := ((rSlc rByte)).ownKeep oy1_1 k2
  obtain ⟨vr20_2, rfl, _⟩ := telegram_rd (x0 := ((decI a0).1).1) (x1 := ((decI a0).1).2.1) (x2 := ((decI a0).1).2.2) ((rTelegram).ownrd or20_2)
  simp only [telegram_val]
  simp (maxSteps := 4000000) (disch := omega) only [Zq, evO, vbox, wr, Zeq, if_true, if_false, Nat.reduceEqDiff, Nat.reduceAdd, Nat.reduceLeDiff, Nat.reduceSub, and_self, and_true, true_and, reduceIte, reduceCtorEq, eq_self, implies_true, forall_const, false_implies, imp_self, decide_true, decide_false, vbinB_ne]
  generalize hG3 : ((H2.push [.int .i64 0, .int .i64 0, .slice none 0 0]).set H2.nxt [.int .i64 ((decI a0).1).1, .int .i64 ((decI a0).1).2.1, vr20_2]) = H3
  have k3 : Keep H2 H3 := by rw [← hG3]; repeat' (first | exact Keep.refl _ | assumption | refine Keep.push' ?_ | refine Keep.set' ?_ ?_ | refine Keep.moved' ?_ ?_ | omega)
  have gx3_3 : H3.get H2.nxt = some (.own [.int .i64 ((decI a0).1).1, .int .i64 ((decI a0).1).2.1, vr20_2]) := by rw [← hG3]; simp (maxSteps := 4000000) (disch := omega) only [Zq, evO, vbox, wr, Zeq, if_true, if_false, Nat.reduceEqDiff, Nat.reduceAdd, Nat.reduceLeDiff, Nat.reduceSub, and_self, and_true, true_and, reduceIte, reduceCtorEq, eq_self, implies_true, forall_const, false_implies, imp_self, decide_true, decide_false]
  have nn3 : H2.nxt + 1 = H3.nxt := by rw [← hG3]; simp only [Zbh, Zbg]
  have n3 := k3.nxt
  have k0_3 := k0_2.trans k3
  have or20_3 := (rTelegram).ownKeep or20_2 k3
  try simp (maxSteps := 4000000) (disch := omega) only [Zq, evO, vbox, wr, Zeq, if_true, if_false, Nat.reduceEqDiff, Nat.reduceAdd, Nat.reduceLeDiff, Nat.reduceSub, and_self, and_true, true_and, reduceIte, reduceCtorEq, eq_self, implies_true, forall_const, false_implies, imp_self, decide_true, decide_false, vbinB_ne, gx3_3]
  first | refine G_fix [0, 3, 4, 22] ?_ | refine GO_fix [0, 3, 4, 22] ?_ | refine cK_fix [0, 3, 4, 22] ?_
  intro T hT
  simp only [fix_nil, fix_cons, Zq, evO, vbox, wr, Zeq, if_true, if_false, Nat.reduceEqDiff, Nat.reduceAdd, Nat.reduceLeDiff, Nat.reduceSub, and_self, and_true, true_and, reduceIte, reduceCtorEq, eq_self, implies_true, forall_const, false_implies, imp_self, decide_true, decide_false] at hT
  obtain ⟨t0, t3, t4, t22⟩ := hT
  refine GO_call_eq (by (simp (maxSteps := 4000000) (disch := omega) only [Zq, evO, vbox, wr, Zeq, if_true, if_false, Nat.reduceEqDiff, Nat.reduceAdd, Nat.reduceLeDiff, Nat.reduceSub, and_self, and_true, true_and, reduceIte, reduceCtorEq, eq_self, implies_true, forall_const, false_implies, imp_self, decide_true, decide_false, t0, t3, t4, t22]) <;> rfl) ((toByteS_is H3 [v0] a0 (((rSlc rByte)).rdk h0 k0_3) ht0).mono ?_)
  rintro _ H4 ⟨k4, csy4, Fy4, rfl, oy4_4, fy4⟩
  have n4 := k4.nxt
  have gx3_4 := (k4.get H2.nxt (by omega)).trans gx3_3
  have k0_4 := k0_3.trans k4
  have or20_4 := (rTelegram).ownKeep or20_3 k4
  obtain ⟨vy4, rfl⟩ := slc_one (((rSlc rByte)).ownrd oy4_4)
  simp only [slc_val]
  simp (maxSteps := 4000000) (disch := omega) only [Zq, evO, vbox, wr, Zeq, if_true, if_false, Nat.reduceEqDiff, Nat.reduceAdd, Nat.reduceLeDiff, Nat.reduceSub, and_self, and_true, true_and, reduceIte, reduceCtorEq, eq_self, implies_true, forall_const, false_implies, imp_self, decide_true, decide_false, vbinB_ne, gx3_4, t0, t3, t4, t22]
  refine GO_call_eq (by (simp (maxSteps := 4000000) (disch := omega) only [Zq, evO, vbox, wr, Zeq, if_true, if_false, Nat.reduceEqDiff, Nat.reduceAdd, Nat.reduceLeDiff, Nat.reduceSub, and_self, and_true, true_and, reduceIte, reduceCtorEq, eq_self, implies_true, forall_const, false_implies, imp_self, decide_true, decide_false, t0, t3, t4, t22]) <;> rfl) ((dec_law rfl (r_impl_Decode (bts_of (((rSlc rByte)).ownrd oy4_4)) (tot_len ht0) hc)).mono ?_)
  rintro _ H5 ⟨k5, csr50, Fr50, rfl, or50_5, fr50⟩
  have n5 := k5.nxt
  have gx3_5 := (k5.get H2.nxt (by omega)).trans gx3_4
  have k0_5 := k0_4.trans k5
  have or20_5 := (rTelegram).ownKeep or20_4 k5
  have oy4_5 := ((rSlc rByte)).ownKeep oy4_4 k5
  obtain ⟨vr50_2, rfl, _⟩ := telegram_rd (x0 := ((decI a0).1).1) (x1 := ((decI a0).1).2.1) (x2 := ((decI a0).1).2.2) ((rTelegram).ownrd or50_5)
  simp only [telegram_val]
  simp (maxSteps := 4000000) (disch := omega) only [Zq, evO, vbox, wr, Zeq, if_true, if_false, Nat.reduceEqDiff, Nat.reduceAdd, Nat.reduceLeDiff, Nat.reduceSub, and_self, and_true, true_and, reduceIte, reduceCtorEq, eq_self, implies_true, forall_const, false_implies, imp_self, decide_true, decide_false, vbinB_ne, gx3_5, t0, t3, t4, t22]
  generalize hG6 : ((H5.push [.int .i64 0, .int .i64 0, .slice none 0 0]).set H5.nxt [.int .i64 ((decI a0).1).1, .int .i64 ((decI a0).1).2.1, vr50_2]) = H6
  have k6 : Keep H5 H6 := by rw [← hG6]; repeat' (first | exact Keep.refl _ | assumption | refine Keep.push' ?_ | refine Keep.set' ?_ ?_ | refine Keep.moved' ?_ ?_ | omega)
  have gx6_6 : H6.get H5.nxt = some (.own [.int .i64 ((decI a0).1).1, .int .i64 ((decI a0).1).2.1, vr50_2]) := by rw [← hG6]; simp (maxSteps := 4000000) (disch := omega) only [Zq, evO, vbox, wr, Zeq, if_true, if_false, Nat.reduceEqDiff, Nat.reduceAdd, Nat.reduceLeDiff, Nat.reduceSub, and_self, and_true, true_and, reduceIte, reduceCtorEq, eq_self, implies_true, forall_const, false_implies, imp_self, decide_true, decide_false]
  have nn6 : H5.nxt + 1 = H6.nxt := by rw [← hG6]; simp only [Zbh, Zbg]
  have n6 := k6.nxt
  have gx3_6 := (k6.get H2.nxt (by omega)).trans gx3_5
  have k0_6 := k0_5.trans k6
  have or20_6 := (rTelegram).ownKeep or20_5 k6
  have oy4_6 := ((rSlc rByte)).ownKeep oy4_5 k6
  have or50_6 := (rTelegram).ownKeep or50_5 k6
  try simp (maxSteps := 4000000) (disch := omega) only [Zq, evO, vbox, wr, Zeq, if_true, if_false, Nat.reduceEqDiff, Nat.reduceAdd, Nat.reduceLeDiff, Nat.reduceSub, and_self, and_true, true_and, reduceIte, reduceCtorEq, eq_self, implies_true, forall_const, false_implies, imp_self, decide_true, decide_false, vbinB_ne, gx3_6, gx6_6, t0, t3, t4, t22]
  first | refine G_fix [0, 3, 4, 5, 6, 7, 29, 30] ?_ | refine GO_fix [0, 3, 4, 5, 6, 7, 29, 30] ?_ | refine cK_fix [0, 3, 4, 5, 6, 7, 29, 30] ?_
  intro T hT
  simp only [fix_nil, fix_cons, Zq, evO, vbox, wr, Zeq, if_true, if_false, Nat.reduceEqDiff, Nat.reduceAdd, Nat.reduceLeDiff, Nat.reduceSub, and_self, and_true, true_and, reduceIte, reduceCtorEq, eq_self, implies_true, forall_const, false_implies, imp_self, decide_true, decide_false, t0, t3, t4, t22] at hT
  obtain ⟨t0, t3, t4, t5, t6, t7, t29, t30⟩ := hT
  refine GO_call_eq (by (simp (maxSteps := 4000000) (disch := omega) only [Zq, evO, vbox, wr, Zeq, if_true, if_false, Nat.reduceEqDiff, Nat.reduceAdd, Nat.reduceLeDiff, Nat.reduceSub, and_self, and_true, true_and, reduceIte, reduceCtorEq, eq_self, implies_true, forall_const, false_implies, imp_self, decide_true, decide_false, t0, t3, t4, t5, t6, t7, t29, t30]) <;> rfl) ((eqTelegram_is H6 [.int .i64 ((decI a0).1).1, .int .i64 ((decI a0).1).2.1, vr50_2] [.int .i64 ((decI a0).1).1, .int .i64 ((decI a0).1).2.1, vr20_2] ((decI a0).1) ((rTelegram).ownrd or50_6) ((rTelegram).ownrd or20_6) (by omega)).mono ?_)
  rintro _ H7 ⟨k7, rfl⟩
  have n7 := k7.nxt
  have gx3_7 := (k7.get H2.nxt (by omega)).trans gx3_6
  have gx6_7 := (k7.get H5.nxt (by omega)).trans gx6_6
  have k0_7 := k0_6.trans k7
  have or20_7 := (rTelegram).ownKeep or20_6 k7
  have oy4_7 := ((rSlc rByte)).ownKeep oy4_6 k7
  have or50_7 := (rTelegram).ownKeep or50_6 k7
  simp (maxSteps := 4000000) (disch := omega) only [Zq, evO, vbox, wr, Zeq, if_true, if_false, Nat.reduceEqDiff, Nat.reduceAdd, Nat.reduceLeDiff, Nat.reduceSub, and_self, and_true, true_and, reduceIte, reduceCtorEq, eq_self, implies_true, forall_const, false_implies, imp_self, decide_true, decide_false, vbinB_ne, gx3_7, gx6_7, t0, t3, t4, t5, t6, t7, t29, t30]
  first | refine G_fix [0, 3, 4, 5, 6, 7, 38, 39] ?_ | refine GO_fix [0, 3, 4, 5, 6, 7, 38, 39] ?_ | refine cK_fix [0, 3, 4, 5, 6, 7, 38, 39] ?_
  intro T hT
  simp only [fix_nil, fix_cons, Zq, evO, vbox, wr, Zeq, if_true, if_false, Nat.reduceEqDiff, Nat.reduceAdd, Nat.reduceLeDiff, Nat.reduceSub, and_self, and_true, true_and, reduceIte, reduceCtorEq, eq_self, implies_true, forall_const, false_implies, imp_self, decide_true, decide_false, t0, t3, t4, t5, t6, t7, t29, t30] at hT
  obtain ⟨t0, t3, t4, t5, t6, t7, t38, t39⟩ := hT
  refine GO_call_eq (by (simp (maxSteps := 4000000) (disch := omega) only [Zq, evO, vbox, wr, Zeq, if_true, if_false, Nat.reduceEqDiff, Nat.reduceAdd, Nat.reduceLeDiff, Nat.reduceSub, and_self, and_true, true_and, reduceIte, reduceCtorEq, eq_self, implies_true, forall_const, false_implies, imp_self, decide_true, decide_false, t0, t3, t4, t5, t6, t7, t38, t39]) <;> rfl) ((toByteS_is H7 [v0] a0 (((rSlc rByte)).rdk h0 k0_7) ht0).mono ?_)
  rintro _ H8 ⟨k8, csy7, Fy7, rfl, oy7_8, fy7⟩
  have n8 := k8.nxt
  have gx3_8 := (k8.get H2.nxt (by omega)).trans gx3_7
  have gx6_8 := (k8.get H5.nxt (by omega)).trans gx6_7
  have k0_8 := k0_7.trans k8
  have or20_8 := (rTelegram).ownKeep or20_7 k8
  have oy4_8 := ((rSlc rByte)).ownKeep oy4_7 k8
  have or50_8 := (rTelegram).ownKeep or50_7 k8
  obtain ⟨vy7, rfl⟩ := slc_one (((rSlc rByte)).ownrd oy7_8)
  simp only [slc_val]
  simp (maxSteps := 4000000) (disch := omega) only [Zq, evO, vbox, wr, Zeq, if_true, if_false, Nat.reduceEqDiff, Nat.reduceAdd, Nat.reduceLeDiff, Nat.reduceSub, and_self, and_true, true_and, reduceIte, reduceCtorEq, eq_self, implies_true, forall_const, false_implies, imp_self, decide_true, decide_false, vbinB_ne, gx3_8, gx6_8, t0, t3, t4, t5, t6, t7, t38, t39]
  refine GO_call_eq (by (simp (maxSteps := 4000000) (disch := omega) only [Zq, evO, vbox, wr, Zeq, if_true, if_false, Nat.reduceEqDiff, Nat.reduceAdd, Nat.reduceLeDiff, Nat.reduceSub, and_self, and_true, true_and, reduceIte, reduceCtorEq, eq_self, implies_true, forall_const, false_implies, imp_self, decide_true, decide_false, t0, t3, t4, t5, t6, t7, t38, t39]) <;> rfl) ((eqByteS_is H8 [vy4] [vy7] (a0) (((rSlc rByte)).ownrd oy4_8) (((rSlc rByte)).ownrd oy7_8) (by omega)).mono ?_)
  rintro _ H9 ⟨k9, rfl⟩
  have n9 := k9.nxt
  have gx3_9 := (k9.get H2.nxt (by omega)).trans gx3_8
  have gx6_9 := (k9.get H5.nxt (by omega)).trans gx6_8
  have k0_9 := k0_8.trans k9
  have or20_9 := (rTelegram).ownKeep or20_8 k9
  have oy4_9 := ((rSlc rByte)).ownKeep oy4_8 k9
  have or50_9 := (rTelegram).ownKeep or50_8 k9
  have oy7_9 := ((rSlc rByte)).ownKeep oy7_8 k9
  simp (maxSteps := 4000000) (disch := omega) only [Zq, evO, vbox, wr, Zeq, if_true, if_false, Nat.reduceEqDiff, Nat.reduceAdd, Nat.reduceLeDiff, Nat.reduceSub, and_self, and_true, true_and, reduceIte, reduceCtorEq, eq_self, implies_true, forall_const, false_implies, imp_self, decide_true, decide_false, vbinB_ne, gx3_9, gx6_9, t0, t3, t4, t5, t6, t7, t38, t39]
  have hm10 := mar_le MarB.byte (a0) (1)
  refine GO_call_eq (by (simp (maxSteps := 4000000) (disch := omega) only [Zq, evO, vbox, wr, Zeq, if_true, if_false, Nat.reduceEqDiff, Nat.reduceAdd, Nat.reduceLeDiff, Nat.reduceSub, and_self, and_true, true_and, reduceIte, reduceCtorEq, eq_self, implies_true, forall_const, false_implies, imp_self, decide_true, decide_false, t0, t3, t4, t5, t6, t7, t38, t39]) <;> rfl) ((markByteS_is H9 [vy4] (a0) Fy4 (1) oy4_9 fy4.1 (by omega)).mono ?_)
  rintro _ H10 ⟨c10, oy4_10, rfl⟩
  have n10 := c10.nxt
  have gx3_10 := (c10.get H2.nxt (by omega) (fun hm => by have := fy4.2 _ hm; omega)).trans gx3_9
  have gx6_10 := (c10.get H5.nxt (by omega) (fun hm => by have := fy4.2 _ hm; omega)).trans gx6_9
  have k0_10 := c10.keep k0_9 (fun i hi => by have := fy4.2 i hi; omega)
  have or20_10 := (rTelegram).ownChg or20_9 c10 (fun i hi hm => by have := fr20.2 i hi; have := fy4.2 i hm; omega)
  have or50_10 := (rTelegram).ownChg or50_9 c10 (fun i hi hm => by have := fr50.2 i hi; have := fy4.2 i hm; omega)
  simp (maxSteps := 4000000) (disch := omega) only [Zq, evO, vbox, wr, Zeq, if_true, if_false, Nat.reduceEqDiff, Nat.reduceAdd, Nat.reduceLeDiff, Nat.reduceSub, and_self, and_true, true_and, reduceIte, reduceCtorEq, eq_self, implies_true, forall_const, false_implies, imp_self, decide_true, decide_false, vbinB_ne, gx3_10, gx6_10, t0, t3, t4, t5, t6, t7, t38, t39]
  first | refine G_fix [0, 3, 4, 6, 7, 48, 49, 50] ?_ | refine GO_fix [0, 3, 4, 6, 7, 48, 49, 50] ?_ | refine cK_fix [0, 3, 4, 6, 7, 48, 49, 50] ?_
  intro T hT
  simp only [fix_nil, fix_cons, Zq, evO, vbox, wr, Zeq, if_true, if_false, Nat.reduceEqDiff, Nat.reduceAdd, Nat.reduceLeDiff, Nat.reduceSub, and_self, and_true, true_and, reduceIte, reduceCtorEq, eq_self, implies_true, forall_const, false_implies, imp_self, decide_true, decide_false, t0, t3, t4, t5, t6, t7, t38, t39] at hT
  obtain ⟨t0, t3, t4, t6, t7, t48, t49, t50⟩ := hT
  refine GO_call_eq (by (simp (maxSteps := 4000000) (disch := omega) only [Zq, evO, vbox, wr, Zeq, if_true, if_false, Nat.reduceEqDiff, Nat.reduceAdd, Nat.reduceLeDiff, Nat.reduceSub, and_self, and_true, true_and, reduceIte, reduceCtorEq, eq_self, implies_true, forall_const, false_implies, imp_self, decide_true, decide_false, t0, t3, t4, t6, t7, t48, t49, t50]) <;> rfl) ((eqTelegram_is H10 [.int .i64 ((decI a0).1).1, .int .i64 ((decI a0).1).2.1, vr50_2] [.int .i64 ((decI a0).1).1, .int .i64 ((decI a0).1).2.1, vr20_2] ((decI a0).1) ((rTelegram).ownrd or50_10) ((rTelegram).ownrd or20_10) (by omega)).mono ?_)
  rintro _ H11 ⟨k11, rfl⟩
  have n11 := k11.nxt
  have gx3_11 := (k11.get H2.nxt (by omega)).trans gx3_10
  have gx6_11 := (k11.get H5.nxt (by omega)).trans gx6_10
  have k0_11 := k0_10.trans k11
  have or20_11 := (rTelegram).ownKeep or20_10 k11
  have or50_11 := (rTelegram).ownKeep or50_10 k11
  simp (maxSteps := 4000000) (disch := omega) only [Zq, evO, vbox, wr, Zeq, if_true, if_false, Nat.reduceEqDiff, Nat.reduceAdd, Nat.reduceLeDiff, Nat.reduceSub, and_self, and_true, true_and, reduceIte, reduceCtorEq, eq_self, implies_true, forall_const, false_implies, imp_self, decide_true, decide_false, vbinB_ne, gx3_11, gx6_11, t0, t3, t4, t6, t7, t48, t49, t50]
  first | refine G_fix [0, 3, 4, 6, 59, 60] ?_ | refine GO_fix [0, 3, 4, 6, 59, 60] ?_ | refine cK_fix [0, 3, 4, 6, 59, 60] ?_
  intro T hT
  simp only [fix_nil, fix_cons, Zq, evO, vbox, wr, Zeq, if_true, if_false, Nat.reduceEqDiff, Nat.reduceAdd, Nat.reduceLeDiff, Nat.reduceSub, and_self, and_true, true_and, reduceIte, reduceCtorEq, eq_self, implies_true, forall_const, false_implies, imp_self, decide_true, decide_false, t0, t3, t4, t6, t7, t48, t49, t50] at hT
  obtain ⟨t0, t3, t4, t6, t59, t60⟩ := hT
  have hm12 := mar_Telegram ((decI a0).1) (1)
  refine GO_call_eq (by (simp (maxSteps := 4000000) (disch := omega) only [Zq, evO, vbox, wr, Zeq, if_true, if_false, Nat.reduceEqDiff, Nat.reduceAdd, Nat.reduceLeDiff, Nat.reduceSub, and_self, and_true, true_and, reduceIte, reduceCtorEq, eq_self, implies_true, forall_const, false_implies, imp_self, decide_true, decide_false, t0, t3, t4, t6, t59, t60]) <;> rfl) ((markTelegram_is H11 [.int .i64 ((decI a0).1).1, .int .i64 ((decI a0).1).2.1, vr50_2] ((decI a0).1) Fr50 (1) or50_11 fr50.1 (by omega)).mono ?_)
  rintro _ H12 ⟨c12, or50_12, rfl⟩
  have n12 := c12.nxt
  have gx3_12 := (c12.get H2.nxt (by omega) (fun hm => by have := fr50.2 _ hm; omega)).trans gx3_11
  have gx6_12 := (c12.get H5.nxt (by omega) (fun hm => by have := fr50.2 _ hm; omega)).trans gx6_11
  have k0_12 := c12.keep k0_11 (fun i hi => by have := fr50.2 i hi; omega)
  have or20_12 := (rTelegram).ownChg or20_11 c12 (fun i hi hm => by have := fr20.2 i hi; have := fr50.2 i hm; omega)
  simp (maxSteps := 4000000) (disch := omega) only [Zq, evO, vbox, wr, Zeq, if_true, if_false, Nat.reduceEqDiff, Nat.reduceAdd, Nat.reduceLeDiff, Nat.reduceSub, and_self, and_true, true_and, reduceIte, reduceCtorEq, eq_self, implies_true, forall_const, false_implies, imp_self, decide_true, decide_false, vbinB_ne, gx3_12, gx6_12, t0, t3, t4, t6, t59, t60]
  refine GO_call_eq (by (simp (maxSteps := 4000000) (disch := omega) only [Zq, evO, vbox, wr, Zeq, if_true, if_false, Nat.reduceEqDiff, Nat.reduceAdd, Nat.reduceLeDiff, Nat.reduceSub, and_self, and_true, true_and, reduceIte, reduceCtorEq, eq_self, implies_true, forall_const, false_implies, imp_self, decide_true, decide_false, t0, t3, t4, t6, t59, t60]) <;> rfl) ((heldTelegram_is H12 [.int .i64 ((decI a0).1).1, .int .i64 ((decI a0).1).2.1, vr50_2] ((decI a0).1) (1) ((rTelegram).ownrd or50_12) (by omega)).mono ?_)
  rintro _ H13 ⟨k13, rfl⟩
  have n13 := k13.nxt
  have gx3_13 := (k13.get H2.nxt (by omega)).trans gx3_12
  have gx6_13 := (k13.get H5.nxt (by omega)).trans gx6_12
  have k0_13 := k0_12.trans k13
  have or20_13 := (rTelegram).ownKeep or20_12 k13
  have or50_13 := (rTelegram).ownKeep or50_12 k13
  simp (maxSteps := 4000000) (disch := omega) only [Zq, evO, vbox, wr, Zeq, if_true, if_false, Nat.reduceEqDiff, Nat.reduceAdd, Nat.reduceLeDiff, Nat.reduceSub, and_self, and_true, true_and, reduceIte, reduceCtorEq, eq_self, implies_true, forall_const, false_implies, imp_self, decide_true, decide_false, vbinB_ne, gx3_13, gx6_13, t0, t3, t4, t6, t59, t60]
  first | refine G_fix [3, 4, 6, 9, 71] ?_ | refine GO_fix [3, 4, 6, 9, 71] ?_ | refine cK_fix [3, 4, 6, 9, 71] ?_
  intro T hT
  simp only [fix_nil, fix_cons, Zq, evO, vbox, wr, Zeq, if_true, if_false, Nat.reduceEqDiff, Nat.reduceAdd, Nat.reduceLeDiff, Nat.reduceSub, and_self, and_true, true_and, reduceIte, reduceCtorEq, eq_self, implies_true, forall_const, false_implies, imp_self, decide_true, decide_false, t0, t3, t4, t6, t59, t60] at hT
  obtain ⟨t3, t4, t6, t9, t71⟩ := hT
  refine GO_call_eq (by (simp (maxSteps := 4000000) (disch := omega) only [Zq, evO, vbox, wr, Zeq, if_true, if_false, Nat.reduceEqDiff, Nat.reduceAdd, Nat.reduceLeDiff, Nat.reduceSub, and_self, and_true, true_and, reduceIte, reduceCtorEq, eq_self, implies_true, forall_const, false_implies, imp_self, decide_true, decide_false, t3, t4, t6, t9, t71]) <;> rfl) ((toByteS_is H13 [v0] a0 (((rSlc rByte)).rdk h0 k0_13) ht0).mono ?_)
  rintro _ H14 ⟨k14, csy8, Fy8, rfl, oy8_14, fy8⟩
  have n14 := k14.nxt
  have gx3_14 := (k14.get H2.nxt (by omega)).trans gx3_13
  have gx6_14 := (k14.get H5.nxt (by omega)).trans gx6_13
  have k0_14 := k0_13.trans k14
  have or20_14 := (rTelegram).ownKeep or20_13 k14
  have or50_14 := (rTelegram).ownKeep or50_13 k14
  obtain ⟨vy8, rfl⟩ := slc_one (((rSlc rByte)).ownrd oy8_14)
  simp only [slc_val]
  simp (maxSteps := 4000000) (disch := omega) only [Zq, evO, vbox, wr, Zeq, if_true, if_false, Nat.reduceEqDiff, Nat.reduceAdd, Nat.reduceLeDiff, Nat.reduceSub, and_self, and_true, true_and, reduceIte, reduceCtorEq, eq_self, implies_true, forall_const, false_implies, imp_self, decide_true, decide_false, vbinB_ne, gx3_14, gx6_14, t3, t4, t6, t9, t71]
  refine GO_call_eq (by (simp (maxSteps := 4000000) (disch := omega) only [Zq, evO, vbox, wr, Zeq, if_true, if_false, Nat.reduceEqDiff, Nat.reduceAdd, Nat.reduceLeDiff, Nat.reduceSub, and_self, and_true, true_and, reduceIte, reduceCtorEq, eq_self, implies_true, forall_const, false_implies, imp_self, decide_true, decide_false, t3, t4, t6, t9, t71]) <;> rfl) ((dec_law rfl (r_impl_Decode (bts_of (((rSlc rByte)).ownrd oy8_14)) (tot_len ht0) hc)).mono ?_)
  rintro _ H15 ⟨k15, csr90, Fr90, rfl, or90_15, fr90⟩
  have n15 := k15.nxt
  have gx3_15 := (k15.get H2.nxt (by omega)).trans gx3_14
  have gx6_15 := (k15.get H5.nxt (by omega)).trans gx6_14
  have k0_15 := k0_14.trans k15
  have or20_15 := (rTelegram).ownKeep or20_14 k15
  have or50_15 := (rTelegram).ownKeep or50_14 k15
  have oy8_15 := ((rSlc rByte)).ownKeep oy8_14 k15
  obtain ⟨vr90_2, rfl, _⟩ := telegram_rd (x0 := ((decI a0).1).1) (x1 := ((decI a0).1).2.1) (x2 := ((decI a0).1).2.2) ((rTelegram).ownrd or90_15)
  simp only [telegram_val]
  simp (maxSteps := 4000000) (disch := omega) only [Zq, evO, vbox, wr, Zeq, if_true, if_false, Nat.reduceEqDiff, Nat.reduceAdd, Nat.reduceLeDiff, Nat.reduceSub, and_self, and_true, true_and, reduceIte, reduceCtorEq, eq_self, implies_true, forall_const, false_implies, imp_self, decide_true, decide_false, vbinB_ne, gx3_15, gx6_15, t3, t4, t6, t9, t71]
  generalize hG16 : ((H15.push [.int .i64 0, .int .i64 0, .slice none 0 0]).set H15.nxt [.int .i64 ((decI a0).1).1, .int .i64 ((decI a0).1).2.1, vr90_2]) = H16
  have k16 : Keep H15 H16 := by rw [← hG16]; repeat' (first | exact Keep.refl _ | assumption | refine Keep.push' ?_ | refine Keep.set' ?_ ?_ | refine Keep.moved' ?_ ?_ | omega)
  have gx10_16 : H16.get H15.nxt = some (.own [.int .i64 ((decI a0).1).1, .int .i64 ((decI a0).1).2.1, vr90_2]) := by rw [← hG16]; simp (maxSteps := 4000000) (disch := omega) only [Zq, evO, vbox, wr, Zeq, if_true, if_false, Nat.reduceEqDiff, Nat.reduceAdd, Nat.reduceLeDiff, Nat.reduceSub, and_self, and_true, true_and, reduceIte, reduceCtorEq, eq_self, implies_true, forall_const, false_implies, imp_self, decide_true, decide_false]
  have nn16 : H15.nxt + 1 = H16.nxt := by rw [← hG16]; simp only [Zbh, Zbg]
  have n16 := k16.nxt
  have gx3_16 := (k16.get H2.nxt (by omega)).trans gx3_15
  have gx6_16 := (k16.get H5.nxt (by omega)).trans gx6_15
  have k0_16 := k0_15.trans k16
  have or20_16 := (rTelegram).ownKeep or20_15 k16
  have or50_16 := (rTelegram).ownKeep or50_15 k16
  have or90_16 := (rTelegram).ownKeep or90_15 k16
  try simp (maxSteps := 4000000) (disch := omega) only [Zq, evO, vbox, wr, Zeq, if_true, if_false, Nat.reduceEqDiff, Nat.reduceAdd, Nat.reduceLeDiff, Nat.reduceSub, and_self, and_true, true_and, reduceIte, reduceCtorEq, eq_self, implies_true, forall_const, false_implies, imp_self, decide_true, decide_false, vbinB_ne, gx3_16, gx6_16, gx10_16, t3, t4, t6, t9, t71]
  first | refine G_fix [4, 6, 9, 12, 76, 77] ?_ | refine GO_fix [4, 6, 9, 12, 76, 77] ?_ | refine cK_fix [4, 6, 9, 12, 76, 77] ?_
  intro T hT
  simp only [fix_nil, fix_cons, Zq, evO, vbox, wr, Zeq, if_true, if_false, Nat.reduceEqDiff, Nat.reduceAdd, Nat.reduceLeDiff, Nat.reduceSub, and_self, and_true, true_and, reduceIte, reduceCtorEq, eq_self, implies_true, forall_const, false_implies, imp_self, decide_true, decide_false, t3, t4, t6, t9, t71] at hT
  obtain ⟨t4, t6, t9, t12, t76, t77⟩ := hT
  refine GO_call_eq (by (simp (maxSteps := 4000000) (disch := omega) only [Zq, evO, vbox, wr, Zeq, if_true, if_false, Nat.reduceEqDiff, Nat.reduceAdd, Nat.reduceLeDiff, Nat.reduceSub, and_self, and_true, true_and, reduceIte, reduceCtorEq, eq_self, implies_true, forall_const, false_implies, imp_self, decide_true, decide_false, t4, t6, t9, t12, t76, t77]) <;> rfl) ((eqTelegram_is H16 [.int .i64 ((decI a0).1).1, .int .i64 ((decI a0).1).2.1, vr90_2] [.int .i64 ((decI a0).1).1, .int .i64 ((decI a0).1).2.1, vr20_2] ((decI a0).1) ((rTelegram).ownrd or90_16) ((rTelegram).ownrd or20_16) (by omega)).mono ?_)
  rintro _ H17 ⟨k17, rfl⟩
  have n17 := k17.nxt
  have gx3_17 := (k17.get H2.nxt (by omega)).trans gx3_16
  have gx6_17 := (k17.get H5.nxt (by omega)).trans gx6_16
  have gx10_17 := (k17.get H15.nxt (by omega)).trans gx10_16
  have k0_17 := k0_16.trans k17
  have or20_17 := (rTelegram).ownKeep or20_16 k17
  have or50_17 := (rTelegram).ownKeep or50_16 k17
  have or90_17 := (rTelegram).ownKeep or90_16 k17
  simp (maxSteps := 4000000) (disch := omega) only [Zq, evO, vbox, wr, Zeq, if_true, if_false, Nat.reduceEqDiff, Nat.reduceAdd, Nat.reduceLeDiff, Nat.reduceSub, and_self, and_true, true_and, reduceIte, reduceCtorEq, eq_self, implies_true, forall_const, false_implies, imp_self, decide_true, decide_false, vbinB_ne, gx3_17, gx6_17, gx10_17, t4, t6, t9, t12, t76, t77]
  first | refine G_fix [9, 85, 86] ?_ | refine GO_fix [9, 85, 86] ?_ | refine cK_fix [9, 85, 86] ?_
  intro T hT
  simp only [fix_nil, fix_cons, Zq, evO, vbox, wr, Zeq, if_true, if_false, Nat.reduceEqDiff, Nat.reduceAdd, Nat.reduceLeDiff, Nat.reduceSub, and_self, and_true, true_and, reduceIte, reduceCtorEq, eq_self, implies_true, forall_const, false_implies, imp_self, decide_true, decide_false, t4, t6, t9, t12, t76, t77] at hT
  obtain ⟨t9, t85, t86⟩ := hT
  refine GO_call_eq (by (simp (maxSteps := 4000000) (disch := omega) only [Zq, evO, vbox, wr, Zeq, if_true, if_false, Nat.reduceEqDiff, Nat.reduceAdd, Nat.reduceLeDiff, Nat.reduceSub, and_self, and_true, true_and, reduceIte, reduceCtorEq, eq_self, implies_true, forall_const, false_implies, imp_self, decide_true, decide_false, t9, t85, t86]) <;> rfl) ((heldTelegram_is H17 [.int .i64 ((decI a0).1).1, .int .i64 ((decI a0).1).2.1, vr50_2] ((decI a0).1) (1) ((rTelegram).ownrd or50_17) (by omega)).mono ?_)
  rintro _ H18 ⟨k18, rfl⟩
  have n18 := k18.nxt
  have gx3_18 := (k18.get H2.nxt (by omega)).trans gx3_17
  have gx6_18 := (k18.get H5.nxt (by omega)).trans gx6_17
  have gx10_18 := (k18.get H15.nxt (by omega)).trans gx10_17
  have k0_18 := k0_17.trans k18
  have or20_18 := (rTelegram).ownKeep or20_17 k18
  have or50_18 := (rTelegram).ownKeep or50_17 k18
  have or90_18 := (rTelegram).ownKeep or90_17 k18
  simp (maxSteps := 4000000) (disch := omega) only [Zq, evO, vbox, wr, Zeq, if_true, if_false, Nat.reduceEqDiff, Nat.reduceAdd, Nat.reduceLeDiff, Nat.reduceSub, and_self, and_true, true_and, reduceIte, reduceCtorEq, eq_self, implies_true, forall_const, false_implies, imp_self, decide_true, decide_false, vbinB_ne, gx3_18, gx6_18, gx10_18, t9, t85, t86]
theorem go_laws_FnExactDecode (H : Heap) (xs : List Value) (h : GoodArgs Try.prog H Try.f5.params.toList xs) : ∃ H', CR Try.prog 5 xs H (.bool true) H' := by
  rw [Try.params5] at h
  obtain ⟨v, l, rfl, h1, h2⟩ := good_args_cons h
  obtain rfl := good_args_nil h2
  obtain ⟨_, g⟩ := goodV_one (by kernel_rfl) h1
  obtain ⟨w, code, e, hi, hm, hwf⟩ := good_ints (e := 5) (k := .u8) (by kernel_rfl) (by kernel_rfl) (by kernel_rfl) g
  simp at e
  subst e
  obtain ⟨r, H', hr, rfl⟩ := r_laws_FnExactDecode (of_bts hi) ⟨Nat.le_trans hm (by decide), fun _ _ => trivial⟩ (fun x hx => wf8 (hwf x hx))
  exact ⟨H', hr⟩
end Go.Proofs.Ytiajbefljkikiaa.AX
