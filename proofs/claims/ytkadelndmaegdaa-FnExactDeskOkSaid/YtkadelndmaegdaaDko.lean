/- The desk: whether it is right, the reference's test and the program's. No condition beyond each law's own; of the program: the functions' forms. -/
import Derived.Test.YtkadelndmaegdaaRde
import Derived.Test.YtkadelndmaegdaaNtd
import Derived.Test.YtkadelndmaegdaaYdk
import Derived.Test.YtkadelndmaegdaaTrn
import Derived.Test.YtkadelndmaegdaaTri
namespace Go.Proofs.Ytkadelndmaegdaa.AX
open Go
set_option maxRecDepth 10000
set_option maxHeartbeats 4000000
set_option linter.unusedSimpArgs false
set_option linter.unusedVariables false
abbrev Dk := Int × List Ed × List Tp × Int × Int × List Bk × List Int × List (List Int)
def deskOk (d : Dk) : Bool := netOk d.1 d.2.1 && (tbOk d.2.2.1 && (trainOk d.2.2.2.1 d.2.2.2.2.1 d.2.2.2.2.2.1 && yardOk d.2.2.2.2.2.2.1 d.2.2.2.2.2.2.2))
section
variable {H : Heap} {v1 v2 v5 v6 v7 : Value}
theorem r_spec_DeskOk {d : Dk} (h : rDesk.rd H [.int .i64 d.1, v1, v2, .int .i64 d.2.2.2.1, .int .i64 d.2.2.2.2.1, v5, v6, v7] d) (ht : rDesk.tot d ≤ 1048576) : Run Try.prog 11 [.agg #[.int .i64 d.1, v1, v2, .int .i64 d.2.2.2.1, .int .i64 d.2.2.2.2.1, v5, v6, v7]] H fun r H' => Keep H H' ∧ r = .bool (deskOk d) := by
  obtain ⟨b0, b1, b2, b3, b4, b5, b6, b7⟩ := d
  obtain ⟨u1, u2, u5, u6, u7, e, h1, h2, h5, h6, h7⟩ := desk_rd h
  simp only [List.cons.injEq, and_true, true_and] at e
  obtain ⟨rfl, rfl, rfl, rfl, rfl⟩ := e
  rw [desk_tot] at ht
  have l1 : b1.length ≤ 1048576 := by have : (rSlc rEdge).tot b1 = b1.length := flat_tot b1; omega
  have l5 : b5.length ≤ 1048576 := by have : (rSlc rBooking).tot b5 = b5.length := flat_tot b5; omega
  have ts : rSidings.tot (b6, b7) ≤ 1048576 := by rw [sidings_tot]; omega
  simp only []
  refine Run.intro c11 rfl ?_
  simp (maxSteps := 4000000) (disch := omega) only [Zq, evO, vbox, wr, Zeq, if_true, if_false, Nat.reduceEqDiff, Nat.reduceAdd, Nat.reduceLeDiff, Nat.reduceSub, and_self, and_true, true_and, reduceIte, reduceCtorEq, eq_self, implies_true, forall_const, false_implies, imp_self, decide_true, decide_false, x11]
  generalize hG0 : H.push [.int .i64 b0, v1, v2, .int .i64 b3, .int .i64 b4, v5, v6, v7] = H0
  have k0 : Keep H H0 := by rw [← hG0]; exact Keep.push _ _
  have g0 : H0.get H.nxt = some (.own [.int .i64 b0, v1, v2, .int .i64 b3, .int .i64 b4, v5, v6, v7]) := by rw [← hG0, push_get', if_pos rfl]
  have n0 : H0.nxt = H.nxt + 1 := by rw [← hG0, Zbg]
  refine GO_call ((r_spec_NetOk (n := b0) ((rSlc rEdge).rdk h1 k0) l1).mono ?_)
  rintro _ H1 ⟨k1, rfl⟩
  have n1 := k1.nxt
  have g1 := (k1.get (H.nxt) (by omega)).trans g0
  have k01 := k0.trans k1
  cases c1 : netOk b0 b1 with
  | false =>
    simp (maxSteps := 4000000) (disch := omega) only [Zq, evO, vbox, wr, Zeq, if_true, if_false, Nat.reduceEqDiff, Nat.reduceAdd, Nat.reduceLeDiff, Nat.reduceSub, and_self, and_true, true_and, reduceIte, reduceCtorEq, eq_self, implies_true, forall_const, false_implies, imp_self, decide_true, decide_false, fix_nil, fix_cons, g0, g1, c1]
    exact ⟨k01, by simp [deskOk, c1]⟩
  | true =>
  simp (maxSteps := 4000000) (disch := omega) only [Zq, evO, vbox, wr, Zeq, if_true, if_false, Nat.reduceEqDiff, Nat.reduceAdd, Nat.reduceLeDiff, Nat.reduceSub, and_self, and_true, true_and, reduceIte, reduceCtorEq, eq_self, implies_true, forall_const, false_implies, imp_self, decide_true, decide_false, fix_nil, fix_cons, g0, g1, c1]
  refine GO_call ((r_spec_TableOk ((rSlc rTrip).rdk h2 k01) (by omega)).mono ?_)
  rintro _ H2 ⟨k2, rfl⟩
  have n2 := k2.nxt
  have g2 := (k2.get (H.nxt) (by omega)).trans g1
  have k02 := k01.trans k2
  cases c2 : tbOk b2 with
  | false =>
    simp (maxSteps := 4000000) (disch := omega) only [Zq, evO, vbox, wr, Zeq, if_true, if_false, Nat.reduceEqDiff, Nat.reduceAdd, Nat.reduceLeDiff, Nat.reduceSub, and_self, and_true, true_and, reduceIte, reduceCtorEq, eq_self, implies_true, forall_const, false_implies, imp_self, decide_true, decide_false, fix_nil, fix_cons, g0, g1, g2, c2]
    exact ⟨k02, by simp [deskOk, c2]⟩
  | true =>
  simp (maxSteps := 4000000) (disch := omega) only [Zq, evO, vbox, wr, Zeq, if_true, if_false, Nat.reduceEqDiff, Nat.reduceAdd, Nat.reduceLeDiff, Nat.reduceSub, and_self, and_true, true_and, reduceIte, reduceCtorEq, eq_self, implies_true, forall_const, false_implies, imp_self, decide_true, decide_false, fix_nil, fix_cons, g0, g1, g2, c2]
  refine GO_call ((r_spec_TrainOk (S := b3) (P := b4) ((rSlc rBooking).rdk h5 k02) l5).mono ?_)
  rintro _ H3 ⟨k3, rfl⟩
  have n3 := k3.nxt
  have g3 := (k3.get (H.nxt) (by omega)).trans g2
  have k03 := k02.trans k3
  cases c3 : trainOk b3 b4 b5 with
  | false =>
    simp (maxSteps := 4000000) (disch := omega) only [Zq, evO, vbox, wr, Zeq, if_true, if_false, Nat.reduceEqDiff, Nat.reduceAdd, Nat.reduceLeDiff, Nat.reduceSub, and_self, and_true, true_and, reduceIte, reduceCtorEq, eq_self, implies_true, forall_const, false_implies, imp_self, decide_true, decide_false, fix_nil, fix_cons, g0, g1, g2, g3, c3]
    exact ⟨k03, by simp [deskOk, c3]⟩
  | true =>
  simp (maxSteps := 4000000) (disch := omega) only [Zq, evO, vbox, wr, Zeq, if_true, if_false, Nat.reduceEqDiff, Nat.reduceAdd, Nat.reduceLeDiff, Nat.reduceSub, and_self, and_true, true_and, reduceIte, reduceCtorEq, eq_self, implies_true, forall_const, false_implies, imp_self, decide_true, decide_false, fix_nil, fix_cons, g0, g1, g2, g3, c3]
  refine GO_call ((r_spec_SidingsOk ((rSlc rInt).rdk h6 k03) ((rSlc (rSlc rInt)).rdk h7 k03) ts).mono ?_)
  rintro _ H4 ⟨k4, rfl⟩
  have n4 := k4.nxt
  simp (maxSteps := 4000000) (disch := omega) only [Zq, evO, vbox, wr, Zeq, if_true, if_false, Nat.reduceEqDiff, Nat.reduceAdd, Nat.reduceLeDiff, Nat.reduceSub, and_self, and_true, true_and, reduceIte, reduceCtorEq, eq_self, implies_true, forall_const, false_implies, imp_self, decide_true, decide_false, fix_nil, fix_cons, g0, g1, g2, g3]
  exact ⟨k03.trans k4, by simp [deskOk, c1, c2, c3]⟩
theorem r_impl_DeskOk {d : Dk} (h : rDesk.rd H [.int .i64 d.1, v1, v2, .int .i64 d.2.2.2.1, .int .i64 d.2.2.2.2.1, v5, v6, v7] d) (ht : rDesk.tot d ≤ 1048576) : Run Try.prog 13 [.agg #[.int .i64 d.1, v1, v2, .int .i64 d.2.2.2.1, .int .i64 d.2.2.2.2.1, v5, v6, v7]] H fun r H' => Keep H H' ∧ r = .bool (deskOk d) := by
  obtain ⟨b0, b1, b2, b3, b4, b5, b6, b7⟩ := d
  obtain ⟨u1, u2, u5, u6, u7, e, h1, h2, h5, h6, h7⟩ := desk_rd h
  simp only [List.cons.injEq, and_true, true_and] at e
  obtain ⟨rfl, rfl, rfl, rfl, rfl⟩ := e
  rw [desk_tot] at ht
  have l1 : b1.length ≤ 1048576 := by have : (rSlc rEdge).tot b1 = b1.length := flat_tot b1; omega
  have l5 : b5.length ≤ 1048576 := by have : (rSlc rBooking).tot b5 = b5.length := flat_tot b5; omega
  have ts : rSidings.tot (b6, b7) ≤ 1048576 := by rw [sidings_tot]; omega
  simp only []
  refine Run.intro c13 rfl ?_
  simp (maxSteps := 4000000) (disch := omega) only [Zq, evO, vbox, wr, Zeq, if_true, if_false, Nat.reduceEqDiff, Nat.reduceAdd, Nat.reduceLeDiff, Nat.reduceSub, and_self, and_true, true_and, reduceIte, reduceCtorEq, eq_self, implies_true, forall_const, false_implies, imp_self, decide_true, decide_false, x13]
  generalize hG0 : H.push [.int .i64 b0, v1, v2, .int .i64 b3, .int .i64 b4, v5, v6, v7] = H0
  have k0 : Keep H H0 := by rw [← hG0]; exact Keep.push _ _
  have g0 : H0.get H.nxt = some (.own [.int .i64 b0, v1, v2, .int .i64 b3, .int .i64 b4, v5, v6, v7]) := by rw [← hG0, push_get', if_pos rfl]
  have n0 : H0.nxt = H.nxt + 1 := by rw [← hG0, Zbg]
  refine GO_call ((r_impl_NetOk (n := b0) ((rSlc rEdge).rdk h1 k0) l1).mono ?_)
  rintro _ H1 ⟨k1, rfl⟩
  have n1 := k1.nxt
  have g1 := (k1.get (H.nxt) (by omega)).trans g0
  have k01 := k0.trans k1
  cases c1 : netOk b0 b1 with
  | false =>
    simp (maxSteps := 4000000) (disch := omega) only [Zq, evO, vbox, wr, Zeq, if_true, if_false, Nat.reduceEqDiff, Nat.reduceAdd, Nat.reduceLeDiff, Nat.reduceSub, and_self, and_true, true_and, reduceIte, reduceCtorEq, eq_self, implies_true, forall_const, false_implies, imp_self, decide_true, decide_false, fix_nil, fix_cons, g0, g1, c1]
    exact ⟨k01, by simp [deskOk, c1]⟩
  | true =>
  simp (maxSteps := 4000000) (disch := omega) only [Zq, evO, vbox, wr, Zeq, if_true, if_false, Nat.reduceEqDiff, Nat.reduceAdd, Nat.reduceLeDiff, Nat.reduceSub, and_self, and_true, true_and, reduceIte, reduceCtorEq, eq_self, implies_true, forall_const, false_implies, imp_self, decide_true, decide_false, fix_nil, fix_cons, g0, g1, c1]
  refine GO_call ((r_impl_TableOk ((rSlc rTrip).rdk h2 k01) (by omega)).mono ?_)
  rintro _ H2 ⟨k2, rfl⟩
  have n2 := k2.nxt
  have g2 := (k2.get (H.nxt) (by omega)).trans g1
  have k02 := k01.trans k2
  cases c2 : tbOk b2 with
  | false =>
    simp (maxSteps := 4000000) (disch := omega) only [Zq, evO, vbox, wr, Zeq, if_true, if_false, Nat.reduceEqDiff, Nat.reduceAdd, Nat.reduceLeDiff, Nat.reduceSub, and_self, and_true, true_and, reduceIte, reduceCtorEq, eq_self, implies_true, forall_const, false_implies, imp_self, decide_true, decide_false, fix_nil, fix_cons, g0, g1, g2, c2]
    exact ⟨k02, by simp [deskOk, c2]⟩
  | true =>
  simp (maxSteps := 4000000) (disch := omega) only [Zq, evO, vbox, wr, Zeq, if_true, if_false, Nat.reduceEqDiff, Nat.reduceAdd, Nat.reduceLeDiff, Nat.reduceSub, and_self, and_true, true_and, reduceIte, reduceCtorEq, eq_self, implies_true, forall_const, false_implies, imp_self, decide_true, decide_false, fix_nil, fix_cons, g0, g1, g2, c2]
  refine GO_call ((r_impl_TrainOk (S := b3) (P := b4) ((rSlc rBooking).rdk h5 k02) l5).mono ?_)
  rintro _ H3 ⟨k3, rfl⟩
  have n3 := k3.nxt
  have g3 := (k3.get (H.nxt) (by omega)).trans g2
  have k03 := k02.trans k3
  cases c3 : trainOk b3 b4 b5 with
  | false =>
    simp (maxSteps := 4000000) (disch := omega) only [Zq, evO, vbox, wr, Zeq, if_true, if_false, Nat.reduceEqDiff, Nat.reduceAdd, Nat.reduceLeDiff, Nat.reduceSub, and_self, and_true, true_and, reduceIte, reduceCtorEq, eq_self, implies_true, forall_const, false_implies, imp_self, decide_true, decide_false, fix_nil, fix_cons, g0, g1, g2, g3, c3]
    exact ⟨k03, by simp [deskOk, c3]⟩
  | true =>
  simp (maxSteps := 4000000) (disch := omega) only [Zq, evO, vbox, wr, Zeq, if_true, if_false, Nat.reduceEqDiff, Nat.reduceAdd, Nat.reduceLeDiff, Nat.reduceSub, and_self, and_true, true_and, reduceIte, reduceCtorEq, eq_self, implies_true, forall_const, false_implies, imp_self, decide_true, decide_false, fix_nil, fix_cons, g0, g1, g2, g3, c3]
  refine GO_call ((r_impl_SidingsOk ((rSlc rInt).rdk h6 k03) ((rSlc (rSlc rInt)).rdk h7 k03) ts).mono ?_)
  rintro _ H4 ⟨k4, rfl⟩
  have n4 := k4.nxt
  simp (maxSteps := 4000000) (disch := omega) only [Zq, evO, vbox, wr, Zeq, if_true, if_false, Nat.reduceEqDiff, Nat.reduceAdd, Nat.reduceLeDiff, Nat.reduceSub, and_self, and_true, true_and, reduceIte, reduceCtorEq, eq_self, implies_true, forall_const, false_implies, imp_self, decide_true, decide_false, fix_nil, fix_cons, g0, g1, g2, g3]
  exact ⟨k03.trans k4, by simp [deskOk, c1, c2, c3]⟩
end
end Go.Proofs.Ytkadelndmaegdaa.AX
