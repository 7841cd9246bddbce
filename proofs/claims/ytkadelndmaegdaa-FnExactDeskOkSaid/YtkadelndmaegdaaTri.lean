/- Trains: whether their bookings are right, the program's way (a table of seats and pieces). No condition beyond each law's own; of the program: the functions' forms. -/
import Derived.Test.YtkadelndmaegdaaTrp
namespace Go.Proofs.Ytkadelndmaegdaa.AX
open Go
set_option maxRecDepth 10000
set_option maxHeartbeats 4000000
set_option linter.unusedSimpArgs false
set_option linter.unusedVariables false
section
variable {H : Heap} {v : Value} {S P : Int} {l : List Bk}
theorem r_impl_ride (S P a b : Int) (v : Value) (H : Heap) (hv : noTup v = true) (hc : vcells v = [v]) : Run Try.prog 75 [.agg #[.int .i64 S, .int .i64 P, v], .int .i64 a, .int .i64 b] H fun r H' => Keep H H' ∧ r = .bool (rideB P a b) := by
  refine Run.intro c75 rfl ?_
  simp (maxSteps := 4000000) (disch := omega) only [Zq, evO, vbox, wr, Zeq, if_true, if_false, Nat.reduceEqDiff, Nat.reduceAdd, Nat.reduceLeDiff, Nat.reduceSub, and_self, and_true, true_and, reduceIte, reduceCtorEq, eq_self, implies_true, forall_const, false_implies, imp_self, decide_true, decide_false, x75, hv, hc]
  by_cases c1 : 0 ≤ a
  · by_cases c2 : a < b
    · by_cases c3 : b ≤ P
      · simp (maxSteps := 4000000) (disch := omega) only [Zq, evO, vbox, wr, Zeq, if_true, if_false, Nat.reduceEqDiff, Nat.reduceAdd, Nat.reduceLeDiff, Nat.reduceSub, and_self, and_true, true_and, reduceIte, reduceCtorEq, eq_self, implies_true, forall_const, false_implies, imp_self, decide_true, decide_false, Zfj c1, Zfh c2, Zfj c3]
        exact ⟨by repeat' (first | exact Keep.refl _ | assumption | refine Keep.push' ?_ | refine Keep.set' ?_ ?_ | refine Keep.moved' ?_ ?_ | omega), by simp [rideB, c1, c2, c3]⟩
      · simp (maxSteps := 4000000) (disch := omega) only [Zq, evO, vbox, wr, Zeq, if_true, if_false, Nat.reduceEqDiff, Nat.reduceAdd, Nat.reduceLeDiff, Nat.reduceSub, and_self, and_true, true_and, reduceIte, reduceCtorEq, eq_self, implies_true, forall_const, false_implies, imp_self, decide_true, decide_false, Zfj c1, Zfh c2, Zfk c3]
        exact ⟨by repeat' (first | exact Keep.refl _ | assumption | refine Keep.push' ?_ | refine Keep.set' ?_ ?_ | refine Keep.moved' ?_ ?_ | omega), by simp [rideB, c1, c2, c3]⟩
    · simp (maxSteps := 4000000) (disch := omega) only [Zq, evO, vbox, wr, Zeq, if_true, if_false, Nat.reduceEqDiff, Nat.reduceAdd, Nat.reduceLeDiff, Nat.reduceSub, and_self, and_true, true_and, reduceIte, reduceCtorEq, eq_self, implies_true, forall_const, false_implies, imp_self, decide_true, decide_false, Zfj c1, Zfi c2]
      exact ⟨by repeat' (first | exact Keep.refl _ | assumption | refine Keep.push' ?_ | refine Keep.set' ?_ ?_ | refine Keep.moved' ?_ ?_ | omega), by simp [rideB, c1, c2]⟩
  · simp (maxSteps := 4000000) (disch := omega) only [Zq, evO, vbox, wr, Zeq, if_true, if_false, Nat.reduceEqDiff, Nat.reduceAdd, Nat.reduceLeDiff, Nat.reduceSub, and_self, and_true, true_and, reduceIte, reduceCtorEq, eq_self, implies_true, forall_const, false_implies, imp_self, decide_true, decide_false, Zfk c1]
    exact ⟨by repeat' (first | exact Keep.refl _ | assumption | refine Keep.push' ?_ | refine Keep.set' ?_ ?_ | refine Keep.moved' ?_ ?_ | omega), by simp [rideB, c1]⟩
theorem r_impl_TrainOk (h : (rSlc rBooking).rd H [v] l) (hl : l.length ≤ 1048576) : Run Try.prog 40 [.agg #[.int .i64 S, .int .i64 P, v]] H fun r H' => Keep H H' ∧ r = .bool (trainOk S P l) := by
  have lv : ∀ H : Heap, vlen H v = some (.int .i64 l.length, H) := fun _ => slc_len h
  obtain ⟨vn, vc⟩ := slc_cell h
  refine Run.intro c40 rfl ?_
  simp (maxSteps := 4000000) (disch := omega) only [Zq, evO, vbox, wr, Zeq, if_true, if_false, Nat.reduceEqDiff, Nat.reduceAdd, Nat.reduceLeDiff, Nat.reduceSub, and_self, and_true, true_and, reduceIte, reduceCtorEq, eq_self, implies_true, forall_const, false_implies, imp_self, decide_true, decide_false, x40]
  generalize hG0 : H.push [.int .i64 S, .int .i64 P, v] = H0
  have k0 : Keep H H0 := by rw [← hG0]; exact Keep.push _ _
  have g0 : H0.get H.nxt = some (.own [.int .i64 S, .int .i64 P, v]) := by rw [← hG0, push_get', if_pos rfl]
  have n0 : H0.nxt = H.nxt + 1 := by rw [← hG0, Zbg]
  refine GO_call ((r_impl_between S 1 60 H0).mono ?_)
  rintro _ H1 ⟨k1, rfl⟩
  have n1 := k1.nxt
  have g1 := (k1.get (H.nxt) (by omega)).trans g0
  have k01 := k0.trans k1
  cases c1 : inR 1 60 S with
  | false =>
    simp (maxSteps := 4000000) (disch := omega) only [Zq, evO, vbox, wr, Zeq, if_true, if_false, Nat.reduceEqDiff, Nat.reduceAdd, Nat.reduceLeDiff, Nat.reduceSub, and_self, and_true, true_and, reduceIte, reduceCtorEq, eq_self, implies_true, forall_const, false_implies, imp_self, decide_true, decide_false, fix_nil, fix_cons, g0, g1, c1]
    exact ⟨k01, by simp [trainOk, c1]⟩
  | true =>
  have hS := inR_iff.1 c1
  simp (maxSteps := 4000000) (disch := omega) only [Zq, evO, vbox, wr, Zeq, if_true, if_false, Nat.reduceEqDiff, Nat.reduceAdd, Nat.reduceLeDiff, Nat.reduceSub, and_self, and_true, true_and, reduceIte, reduceCtorEq, eq_self, implies_true, forall_const, false_implies, imp_self, decide_true, decide_false, fix_nil, fix_cons, g0, g1, c1]
  refine GO_call ((r_impl_between P 1 11 H1).mono ?_)
  rintro _ H2 ⟨k2, rfl⟩
  have n2 := k2.nxt
  have g2 := (k2.get (H.nxt) (by omega)).trans g1
  have k02 := k01.trans k2
  cases c2 : inR 1 11 P with
  | false =>
    simp (maxSteps := 4000000) (disch := omega) only [Zq, evO, vbox, wr, Zeq, if_true, if_false, Nat.reduceEqDiff, Nat.reduceAdd, Nat.reduceLeDiff, Nat.reduceSub, and_self, and_true, true_and, reduceIte, reduceCtorEq, eq_self, implies_true, forall_const, false_implies, imp_self, decide_true, decide_false, fix_nil, fix_cons, g0, g1, g2, c2]
    exact ⟨k02, by simp [trainOk, c2]⟩
  | true =>
  have hP := inR_iff.1 c2
  by_cases c3 : (200 : Int) < l.length
  · simp (maxSteps := 4000000) (disch := omega) only [Zq, evO, vbox, wr, Zeq, if_true, if_false, Nat.reduceEqDiff, Nat.reduceAdd, Nat.reduceLeDiff, Nat.reduceSub, and_self, and_true, true_and, reduceIte, reduceCtorEq, eq_self, implies_true, forall_const, false_implies, imp_self, decide_true, decide_false, fix_nil, fix_cons, g0, g1, g2, c2, lv, Zfh c3]
    have h3 : ¬ l.length ≤ 200 := by omega
    exact ⟨k02, by simp [trainOk, h3]⟩
  simp (maxSteps := 4000000) (disch := omega) only [Zq, evO, vbox, wr, Zeq, if_true, if_false, Nat.reduceEqDiff, Nat.reduceAdd, Nat.reduceLeDiff, Nat.reduceSub, and_self, and_true, true_and, reduceIte, reduceCtorEq, eq_self, implies_true, forall_const, false_implies, imp_self, decide_true, decide_false, fix_nil, fix_cons, g0, g1, g2, c2, lv, Zfi c3]
  generalize hA : H2.push (List.replicate 660 (Value.bool false)) = H3
  have k3 : Keep H2 H3 := by rw [← hA]; exact Keep.push _ _
  have n3 : H3.nxt = H2.nxt + 1 := by rw [← hA, Zbg]
  have n02 : H.nxt < H2.nxt := by omega
  have g3 := (k3.get H.nxt n02).trans g2
  have a3 : H3.get H2.nxt = some (.own (arC (fun _ => false))) := by rw [← hA, push_get', if_pos rfl, arC_zero]
  clear hA
  refine G_forF [1, 3, 25, 26] (l.length) (fun i T H4 => T 27 = .int .i64 (i : Int) ∧ T 4 = .int .i64 (bfo l i) ∧ Keep H2 H4 ∧ H3.nxt ≤ H4.nxt ∧ (∀ j, j < i → rowT S P l j = true) ∧ ∃ g, H4.get H2.nxt = some (.own (arC g)) ∧ Hd l i g) 0 (Nat.zero_le _) ?_ ?_
  · simp (maxSteps := 4000000) (disch := omega) only [Zq, evO, vbox, wr, Zeq, if_true, if_false, Nat.reduceEqDiff, Nat.reduceAdd, Nat.reduceLeDiff, Nat.reduceSub, and_self, and_true, true_and, reduceIte, reduceCtorEq, eq_self, implies_true, forall_const, false_implies, imp_self, decide_true, decide_false, fix_nil, fix_cons, g0, g1, g2, g3]
    exact ⟨by rw [bfo, if_pos rfl], k3, fun j hj => by omega, _, a3, fun j => ⟨fun h => (by cases h), fun ⟨q, hq, _⟩ => by omega⟩⟩
  rintro i T H4 hi hT ⟨t27, t4, k4, n4, ha, gg, a4, hd⟩
  simp only [fix_nil, fix_cons, Zq, evO, vbox, wr, Zeq, if_true, if_false, Nat.reduceEqDiff, Nat.reduceAdd, Nat.reduceLeDiff, Nat.reduceSub, and_self, and_true, true_and, reduceIte, reduceCtorEq, eq_self, implies_true, forall_const, false_implies, imp_self, decide_true, decide_false] at hT
  obtain ⟨t1, t3, t25, t26⟩ := hT
  have k04 := k02.trans k4
  have g4 := (k4.get H.nxt n02).trans g2
  by_cases hin : i < l.length
  rotate_left
  · obtain rfl : i = l.length := by omega
    simp (maxSteps := 4000000) (disch := omega) only [Zq, evO, vbox, wr, Zeq, if_true, if_false, Nat.reduceEqDiff, Nat.reduceAdd, Nat.reduceLeDiff, Nat.reduceSub, and_self, and_true, true_and, reduceIte, reduceCtorEq, eq_self, implies_true, forall_const, false_implies, imp_self, decide_true, decide_false, fix_nil, fix_cons, g0, g1, g2, g3, t1, t3, t25, t26, t27, t4, g4]
    have h3 : l.length ≤ 200 := by omega
    exact ⟨k04, by rw [trainOk, c1, c2, allTo_iff.2 ha]; simp [h3]⟩
  have ixb := fun H0 : Heap => slc_idx (r := rBooking) (H1 := H0) (sz := 4) (i := i) (k := .i64) rfl h hin
  have e1 := (bk_elK h hin H4 k04).1
  simp (maxSteps := 4000000) (disch := omega) only [Zq, evO, vbox, wr, Zeq, if_true, if_false, Nat.reduceEqDiff, Nat.reduceAdd, Nat.reduceLeDiff, Nat.reduceSub, and_self, and_true, true_and, reduceIte, reduceCtorEq, eq_self, implies_true, forall_const, false_implies, imp_self, decide_true, decide_false, fix_nil, fix_cons, g0, g1, g2, g3, t1, t3, t25, t26, t27, t4, g4, ixb, e1]
  generalize hG5 : (H4.push [.int .i64 0, .int .i64 0, .int .i64 0, .int .i64 0]).set H4.nxt [.int .i64 (bk l i).1, .int .i64 (bk l i).2.1, .int .i64 (bk l i).2.2.1, .int .i64 (bk l i).2.2.2] = H5
  have k5 : Keep H4 H5 := by rw [← hG5]; repeat' (first | exact Keep.refl _ | assumption | refine Keep.push' ?_ | refine Keep.set' ?_ ?_ | refine Keep.moved' ?_ ?_ | omega)
  have g5 : H5.get H4.nxt = some (.own [.int .i64 (bk l i).1, .int .i64 (bk l i).2.1, .int .i64 (bk l i).2.2.1, .int .i64 (bk l i).2.2.2]) := by rw [← hG5, Zbi, if_pos rfl]
  have n5 : H5.nxt = H4.nxt + 1 := by rw [← hG5, Zbh, Zbg]
  have k05 := k04.trans k5
  have g5b := (k5.get H.nxt (by omega)).trans g4
  have a5 := (k5.get H2.nxt (by omega)).trans a4
  have wS : IntKind.i64.wrap (S - 1) = S - 1 := wrap64 (by omega) (by omega)
  by_cases q1 : (bk l i).1 ≤ bfo l i
  · simp (maxSteps := 4000000) (disch := omega) only [Zq, evO, vbox, wr, Zeq, if_true, if_false, Nat.reduceEqDiff, Nat.reduceAdd, Nat.reduceLeDiff, Nat.reduceSub, and_self, and_true, true_and, reduceIte, reduceCtorEq, eq_self, implies_true, forall_const, false_implies, imp_self, decide_true, decide_false, fix_nil, fix_cons, g0, g1, g2, g3, t1, t3, t25, t26, t27, t4, g4, g5, g5b, Zfj q1]
    exact ⟨k05, by rw [rowT_bad hin (by rw [Bool.eq_false_iff]; intro hh; have := (rowA_iff.1 hh).1; omega)]⟩
  simp (maxSteps := 4000000) (disch := omega) only [Zq, evO, vbox, wr, Zeq, if_true, if_false, Nat.reduceEqDiff, Nat.reduceAdd, Nat.reduceLeDiff, Nat.reduceSub, and_self, and_true, true_and, reduceIte, reduceCtorEq, eq_self, implies_true, forall_const, false_implies, imp_self, decide_true, decide_false, fix_nil, fix_cons, g0, g1, g2, g3, t1, t3, t25, t26, t27, t4, g4, g5, g5b, Zfk q1, wS]
  refine GO_call ((r_impl_between (bk l i).2.1 0 (S - 1) H5).mono ?_)
  rintro _ H6 ⟨k6, rfl⟩
  have n6 := k6.nxt
  have g6 := (k6.get (H4.nxt) (by omega)).trans g5
  have g6b := (k6.get (H.nxt) (by omega)).trans g5b
  have a6 := (k6.get (H2.nxt) (by omega)).trans a5
  have k06 := k05.trans k6
  cases c6 : inR 0 (S - 1) (bk l i).2.1 with
  | false =>
    simp (maxSteps := 4000000) (disch := omega) only [Zq, evO, vbox, wr, Zeq, if_true, if_false, Nat.reduceEqDiff, Nat.reduceAdd, Nat.reduceLeDiff, Nat.reduceSub, and_self, and_true, true_and, reduceIte, reduceCtorEq, eq_self, implies_true, forall_const, false_implies, imp_self, decide_true, decide_false, fix_nil, fix_cons, g0, g1, g2, g3, t1, t3, t25, t26, t27, t4, g4, g5, g5b, g6, g6b, a6, c6]
    exact ⟨k06, by rw [rowT_bad hin (by rw [rowA, c6, Bool.false_and, Bool.and_false])]⟩
  | true =>
  have hb6 := inR_iff.1 c6
  simp (maxSteps := 4000000) (disch := omega) only [Zq, evO, vbox, wr, Zeq, if_true, if_false, Nat.reduceEqDiff, Nat.reduceAdd, Nat.reduceLeDiff, Nat.reduceSub, and_self, and_true, true_and, reduceIte, reduceCtorEq, eq_self, implies_true, forall_const, false_implies, imp_self, decide_true, decide_false, fix_nil, fix_cons, g0, g1, g2, g3, t1, t3, t25, t26, t27, t4, g4, g5, g5b, g6, g6b, a6, c6]
  refine GO_call ((r_impl_ride S P (bk l i).2.2.1 (bk l i).2.2.2 v H6 vc vn).mono ?_)
  rintro _ H7 ⟨k7, rfl⟩
  have n7 := k7.nxt
  have g7 := (k7.get (H4.nxt) (by omega)).trans g6
  have g7b := (k7.get (H.nxt) (by omega)).trans g6b
  have a7 := (k7.get (H2.nxt) (by omega)).trans a6
  have k07 := k06.trans k7
  cases c7 : rideB P (bk l i).2.2.1 (bk l i).2.2.2 with
  | false =>
    simp (maxSteps := 4000000) (disch := omega) only [Zq, evO, vbox, wr, Zeq, if_true, if_false, Nat.reduceEqDiff, Nat.reduceAdd, Nat.reduceLeDiff, Nat.reduceSub, and_self, and_true, true_and, reduceIte, reduceCtorEq, eq_self, implies_true, forall_const, false_implies, imp_self, decide_true, decide_false, fix_nil, fix_cons, g0, g1, g2, g3, t1, t3, t25, t26, t27, t4, g4, g5, g5b, g6, g6b, a6, g7, g7b, a7, c7]
    exact ⟨k07, by rw [rowT_bad hin (by rw [rowA, c7, Bool.and_false, Bool.and_false])]⟩
  | true =>
  have hb7 := rideB_iff.1 c7
  have hA : rowA S P l i = true := rowA_iff.2 ⟨by omega, hb6, hb7⟩
  have hAq : ∀ q, q < i → rowA S P l q = true := fun q hq => by
    have := ha q hq
    rw [rowT, Bool.and_eq_true] at this
    exact this.1
  have k27 := k4.trans (k5.trans (k6.trans k7))
  obtain ⟨N, hN⟩ : ∃ N : Nat, (bk l i).2.2.1 + (N : Int) = (bk l i).2.2.2 := ⟨((bk l i).2.2.2 - (bk l i).2.2.1).toNat, by omega⟩
  simp (maxSteps := 4000000) (disch := omega) only [Zq, evO, vbox, wr, Zeq, if_true, if_false, Nat.reduceEqDiff, Nat.reduceAdd, Nat.reduceLeDiff, Nat.reduceSub, and_self, and_true, true_and, reduceIte, reduceCtorEq, eq_self, implies_true, forall_const, false_implies, imp_self, decide_true, decide_false, fix_nil, fix_cons, g0, g1, g2, g3, t1, t3, t25, t26, t27, t4, g4, g5, g5b, g6, g6b, a6, g7, g7b, a7, c7]
  refine G_forF [1, 3, 4, 6, 25, 26, 27] (N) (fun n T H8 => T 7 = .int .i64 ((bk l i).2.2.1 + (n : Int)) ∧ Keep H2 H8 ∧ H7.nxt ≤ H8.nxt ∧ H8.get H4.nxt = H7.get H4.nxt ∧ ∃ g, H8.get H2.nxt = some (.own (arC g)) ∧ Hd2 l i n g) 0 (Nat.zero_le _) ?_ ?_
  · simp (maxSteps := 4000000) (disch := omega) only [Zq, evO, vbox, wr, Zeq, if_true, if_false, Nat.reduceEqDiff, Nat.reduceAdd, Nat.reduceLeDiff, Nat.reduceSub, and_self, and_true, true_and, reduceIte, reduceCtorEq, eq_self, implies_true, forall_const, false_implies, imp_self, decide_true, decide_false, fix_nil, fix_cons, g0, g1, g2, g3, t1, t3, t25, t26, t27, t4, g4, g5, g5b, g6, g6b, a6, g7, g7b, a7]
    exact ⟨by rw [Int.add_zero], k27, gg, rfl, hd.two⟩
  rintro n T H8 hn hT ⟨t7, k8, n8, e8, gn, a8, hd2⟩
  simp only [fix_nil, fix_cons, Zq, evO, vbox, wr, Zeq, if_true, if_false, Nat.reduceEqDiff, Nat.reduceAdd, Nat.reduceLeDiff, Nat.reduceSub, and_self, and_true, true_and, reduceIte, reduceCtorEq, eq_self, implies_true, forall_const, false_implies, imp_self, decide_true, decide_false, t1, t3, t25, t26, t27, t4] at hT
  obtain ⟨t1, t3, t4, t6, t25, t26, t27⟩ := hT
  have k08 := k02.trans k8
  have g8 := e8.trans g7
  have g8b := (k8.get H.nxt n02).trans g2
  by_cases hnn : n < N
  rotate_left
  · obtain rfl : n = N := by omega
    simp (maxSteps := 4000000) (disch := omega) only [Zq, evO, vbox, wr, Zeq, if_true, if_false, Nat.reduceEqDiff, Nat.reduceAdd, Nat.reduceLeDiff, Nat.reduceSub, and_self, and_true, true_and, reduceIte, reduceCtorEq, eq_self, implies_true, forall_const, false_implies, imp_self, decide_true, decide_false, fix_nil, fix_cons, g0, g1, g2, g3, t1, t3, t25, t26, t27, t4, g4, g5, g5b, g6, g6b, a6, g7, g7b, a7, t6, t7, g8, g8b, Zfi (by omega : ¬ (bk l i).2.2.1 + (n : Int) < (bk l i).2.2.2)]
    exact ⟨hin, by rw [bfo, if_neg (by omega), Nat.add_sub_cancel], k8, by omega, upto_succ ha (by rw [rowT, hA, allTo_iff.2 (fun q hq => by rw [hd2.free' hN (hAq q hq) hA hq]; rfl)]; rfl), gn, a8, hd2.done (S := S) (P := P) hN⟩
  have hs11 : (bk l i).2.1.toNat ≤ 59 := by omega
  have hz : ((bk l i).2.2.1 + (n : Int)).toNat ≤ 10 := by omega
  have v1 : ∀ H0 : Heap, vaidx H0 60 11 (ptr H2.nxt 0) (.int .i64 (bk l i).2.1) = some (ptr H2.nxt ((bk l i).2.1.toNat * 11), H0) := fun H0 => by rw [vaidx_ptr (by omega) (by omega), Nat.zero_add]
  have v2 : ∀ H0 : Heap, vaidx H0 11 1 (ptr H2.nxt ((bk l i).2.1.toNat * 11)) (.int .i64 ((bk l i).2.2.1 + (n : Int))) = some (ptr H2.nxt ((bk l i).2.1.toNat * 11 + ((bk l i).2.2.1 + (n : Int)).toNat), H0) := fun H0 => by rw [vaidx_ptr (by omega) (by omega), Nat.mul_one]
  have v3 : (arC gn)[(bk l i).2.1.toNat * 11 + ((bk l i).2.2.1 + (n : Int)).toNat]? = some (.bool (gn ((bk l i).2.1.toNat * 11 + ((bk l i).2.2.1 + (n : Int)).toNat))) := arC_get (by omega)
  have hlen := arC_len (g := gn)
  have hJ : (((bk l i).2.1.toNat * 11 + ((bk l i).2.2.1 + (n : Int)).toNat : Nat) : Int) = (bk l i).2.1 * 11 + (bk l i).2.2.1 + n := by omega
  have w1 : IntKind.i64.wrap ((bk l i).2.2.1 + (n : Int) + 1) = (bk l i).2.2.1 + ((n + 1 : Nat) : Int) := by rw [wrap64 (by omega) (by omega)]; omega
  cases c8 : gn ((bk l i).2.1.toNat * 11 + ((bk l i).2.2.1 + (n : Int)).toNat) with
  | true =>
    simp (maxSteps := 4000000) (disch := omega) only [Zq, evO, vbox, wr, Zeq, if_true, if_false, Nat.reduceEqDiff, Nat.reduceAdd, Nat.reduceLeDiff, Nat.reduceSub, and_self, and_true, true_and, reduceIte, reduceCtorEq, eq_self, implies_true, forall_const, false_implies, imp_self, decide_true, decide_false, fix_nil, fix_cons, g0, g1, g2, g3, t1, t3, t25, t26, t27, t4, g4, g5, g5b, g6, g6b, a6, g7, g7b, a7, t6, t7, g8, g8b, Zfh (by omega : (bk l i).2.2.1 + (n : Int) < (bk l i).2.2.2), v1, v2, a8, v3, c8]
    obtain ⟨q, hq, ho⟩ := hd2.hit (by omega) hAq hA hJ (by omega) c8
    exact ⟨k08, by rw [rowT_ovl hin hq ho]⟩
  | false =>
    have v4 : (arC gn).set ((bk l i).2.1.toNat * 11 + ((bk l i).2.2.1 + (n : Int)).toNat) (.bool true) = arC (fun j => if j = (bk l i).2.1.toNat * 11 + ((bk l i).2.2.1 + (n : Int)).toNat then true else gn j) := arC_set (by omega)
    simp (maxSteps := 4000000) (disch := omega) only [Zq, evO, vbox, wr, Zeq, if_true, if_false, Nat.reduceEqDiff, Nat.reduceAdd, Nat.reduceLeDiff, Nat.reduceSub, and_self, and_true, true_and, reduceIte, reduceCtorEq, eq_self, implies_true, forall_const, false_implies, imp_self, decide_true, decide_false, fix_nil, fix_cons, g0, g1, g2, g3, t1, t3, t25, t26, t27, t4, g4, g5, g5b, g6, g6b, a6, g7, g7b, a7, t6, t7, g8, g8b, Zfh (by omega : (bk l i).2.2.1 + (n : Int) < (bk l i).2.2.2), v1, v2, a8, v3, c8, v4, w1]
    exact ⟨hnn, k8.set' (Nat.le_refl _), n8, _, rfl, hd2.step hJ c8⟩
end
end Go.Proofs.Ytkadelndmaegdaa.AX
