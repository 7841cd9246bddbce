/- The desk: what the laws' helpers do. No condition beyond each law's own; of the program: the functions' forms. -/
import Derived.Test.YtkadelndmaegdaaRdk
namespace Go.Proofs.Ytkadelndmaegdaa.AX
open Go
set_option maxRecDepth 10000
set_option maxHeartbeats 4000000
set_option linter.unusedSimpArgs false
set_option linter.unusedVariables false
-- Desk
def rDesk : Rep (Int × (List (Int × Int × Int × Int)) × (List (ByteArray × (List (Int × Int × Int)))) × Int × Int × (List (Int × Int × Int × Int)) × (List Int) × (List (List Int))) := rPair rInt (rPair (rSlc rEdge) (rPair (rSlc rTrip) (rPair rInt (rPair rInt (rPair (rSlc rBooking) (rPair (rSlc rInt) (rSlc (rSlc rInt))))))))
theorem desk_rd {H : Heap} {cs : List Value} {x0 : Int} {x1 : List (Int × Int × Int × Int)} {x2 : List (ByteArray × (List (Int × Int × Int)))} {x3 : Int} {x4 : Int} {x5 : List (Int × Int × Int × Int)} {x6 : List Int} {x7 : List (List Int)} (h : rDesk.rd H cs (x0, x1, x2, x3, x4, x5, x6, x7)) : ∃ v1 v2 v5 v6 v7, cs = [.int .i64 x0, v1, v2, .int .i64 x3, .int .i64 x4, v5, v6, v7] ∧ (rSlc rEdge).rd H [v1] x1 ∧ (rSlc rTrip).rd H [v2] x2 ∧ (rSlc rBooking).rd H [v5] x5 ∧ (rSlc rInt).rd H [v6] x6 ∧ (rSlc (rSlc rInt)).rd H [v7] x7 := by
  obtain ⟨c0, d0, rfl, h0, c1, d1, rfl, h1, c2, d2, rfl, h2, c3, d3, rfl, h3, c4, d4, rfl, h4, c5, d5, rfl, h5, c6, d6, rfl, h6, h7⟩ := h
  have e0 : c0 = [.int .i64 x0] := h0
  subst e0
  obtain ⟨v1, rfl⟩ := slc_one h1
  obtain ⟨v2, rfl⟩ := slc_one h2
  have e3 : c3 = [.int .i64 x3] := h3
  subst e3
  have e4 : c4 = [.int .i64 x4] := h4
  subst e4
  obtain ⟨v5, rfl⟩ := slc_one h5
  obtain ⟨v6, rfl⟩ := slc_one h6
  obtain ⟨v7, rfl⟩ := slc_one h7
  exact ⟨v1, v2, v5, v6, v7, rfl, h1, h2, h5, h6, h7⟩
theorem desk_rd' {H : Heap} {v1 v2 v5 v6 v7 : Value} {x0 : Int} {x1 : List (Int × Int × Int × Int)} {x2 : List (ByteArray × (List (Int × Int × Int)))} {x3 : Int} {x4 : Int} {x5 : List (Int × Int × Int × Int)} {x6 : List Int} {x7 : List (List Int)} (h1 : (rSlc rEdge).rd H [v1] x1) (h2 : (rSlc rTrip).rd H [v2] x2) (h5 : (rSlc rBooking).rd H [v5] x5) (h6 : (rSlc rInt).rd H [v6] x6) (h7 : (rSlc (rSlc rInt)).rd H [v7] x7) : rDesk.rd H [.int .i64 x0, v1, v2, .int .i64 x3, .int .i64 x4, v5, v6, v7] (x0, x1, x2, x3, x4, x5, x6, x7) := ⟨[.int .i64 x0], _, rfl, rfl, ⟨[v1], _, rfl, h1, ⟨[v2], _, rfl, h2, ⟨[.int .i64 x3], _, rfl, rfl, ⟨[.int .i64 x4], _, rfl, rfl, ⟨[v5], _, rfl, h5, ⟨[v6], _, rfl, h6, h7⟩⟩⟩⟩⟩⟩⟩
theorem desk_own {H : Heap} {cs : List Value} {x0 : Int} {x1 : List (Int × Int × Int × Int)} {x2 : List (ByteArray × (List (Int × Int × Int)))} {x3 : Int} {x4 : Int} {x5 : List (Int × Int × Int × Int)} {x6 : List Int} {x7 : List (List Int)} {F : List Nat} (h : rDesk.own H cs (x0, x1, x2, x3, x4, x5, x6, x7) F) : ∃ v1 v2 v5 v6 v7 F1 F2 F5 F6 F7, cs = [.int .i64 x0, v1, v2, .int .i64 x3, .int .i64 x4, v5, v6, v7] ∧ (rSlc rEdge).own H [v1] x1 F1 ∧ (rSlc rTrip).own H [v2] x2 F2 ∧ (rSlc rBooking).own H [v5] x5 F5 ∧ (rSlc rInt).own H [v6] x6 F6 ∧ (rSlc (rSlc rInt)).own H [v7] x7 F7 ∧ F = F1 ++ (F2 ++ (F5 ++ (F6 ++ F7))) := by
  obtain ⟨c0, d0, E0, G0, rfl, h0, ⟨c1, d1, E1, G1, rfl, h1, ⟨c2, d2, E2, G2, rfl, h2, ⟨c3, d3, E3, G3, rfl, h3, ⟨c4, d4, E4, G4, rfl, h4, ⟨c5, d5, E5, G5, rfl, h5, ⟨c6, d6, E6, G6, rfl, h6, h7, rfl⟩, rfl⟩, rfl⟩, rfl⟩, rfl⟩, rfl⟩, rfl⟩ := h
  obtain ⟨e0, f0⟩ : c0 = [.int .i64 x0] ∧ E0 = [] := h0
  subst e0 f0
  obtain ⟨v1, rfl⟩ := slc_one ((rSlc rEdge).ownrd h1)
  obtain ⟨v2, rfl⟩ := slc_one ((rSlc rTrip).ownrd h2)
  obtain ⟨e3, f3⟩ : c3 = [.int .i64 x3] ∧ E3 = [] := h3
  subst e3 f3
  obtain ⟨e4, f4⟩ : c4 = [.int .i64 x4] ∧ E4 = [] := h4
  subst e4 f4
  obtain ⟨v5, rfl⟩ := slc_one ((rSlc rBooking).ownrd h5)
  obtain ⟨v6, rfl⟩ := slc_one ((rSlc rInt).ownrd h6)
  obtain ⟨v7, rfl⟩ := slc_one ((rSlc (rSlc rInt)).ownrd h7)
  exact ⟨v1, v2, v5, v6, v7, E1, E2, E5, E6, G6, rfl, h1, h2, h5, h6, h7, by simp⟩
theorem desk_own' {H : Heap} {v1 v2 v5 v6 v7 : Value} {x0 : Int} {x1 : List (Int × Int × Int × Int)} {x2 : List (ByteArray × (List (Int × Int × Int)))} {x3 : Int} {x4 : Int} {x5 : List (Int × Int × Int × Int)} {x6 : List Int} {x7 : List (List Int)} {F1 F2 F5 F6 F7 : List Nat} (h1 : (rSlc rEdge).own H [v1] x1 F1) (h2 : (rSlc rTrip).own H [v2] x2 F2) (h5 : (rSlc rBooking).own H [v5] x5 F5) (h6 : (rSlc rInt).own H [v6] x6 F6) (h7 : (rSlc (rSlc rInt)).own H [v7] x7 F7) : rDesk.own H [.int .i64 x0, v1, v2, .int .i64 x3, .int .i64 x4, v5, v6, v7] (x0, x1, x2, x3, x4, x5, x6, x7) (F1 ++ (F2 ++ (F5 ++ (F6 ++ F7)))) := by
  have e : F1 ++ (F2 ++ (F5 ++ (F6 ++ F7))) = ([] : List Nat) ++ (F1 ++ (F2 ++ (([] : List Nat) ++ (([] : List Nat) ++ (F5 ++ (F6 ++ F7)))))) := by simp
  rw [e]
  exact ⟨[.int .i64 x0], _, [], _, rfl, ⟨rfl, rfl⟩, ⟨[v1], _, F1, _, rfl, h1, ⟨[v2], _, F2, _, rfl, h2, ⟨[.int .i64 x3], _, [], _, rfl, ⟨rfl, rfl⟩, ⟨[.int .i64 x4], _, [], _, rfl, ⟨rfl, rfl⟩, ⟨[v5], _, F5, _, rfl, h5, ⟨[v6], _, F6, _, rfl, h6, h7, rfl⟩, rfl⟩, rfl⟩, rfl⟩, rfl⟩, rfl⟩, rfl⟩
theorem desk_val {v1 v2 v5 v6 v7 : Value} {x0 : Int} {x3 : Int} {x4 : Int} : rDesk.val [.int .i64 x0, v1, v2, .int .i64 x3, .int .i64 x4, v5, v6, v7] = .agg #[.int .i64 x0, v1, v2, .int .i64 x3, .int .i64 x4, v5, v6, v7] := nofl rfl
theorem desk_tot {x0 : Int} {x1 : List (Int × Int × Int × Int)} {x2 : List (ByteArray × (List (Int × Int × Int)))} {x3 : Int} {x4 : Int} {x5 : List (Int × Int × Int × Int)} {x6 : List Int} {x7 : List (List Int)} : rDesk.tot (x0, x1, x2, x3, x4, x5, x6, x7) = (rSlc rEdge).tot x1 + (rSlc rTrip).tot x2 + (rSlc rBooking).tot x5 + (rSlc rInt).tot x6 + (rSlc (rSlc rInt)).tot x7 := by
  show 0 + ((rSlc rEdge).tot x1 + ((rSlc rTrip).tot x2 + (0 + (0 + ((rSlc rBooking).tot x5 + ((rSlc rInt).tot x6 + (rSlc (rSlc rInt)).tot x7)))))) = _
  omega
theorem szDesk_is : IsSz Try.prog rDesk 10 := by
  rintro H cs ⟨x0, x1, x2, x3, x4, x5, x6, x7⟩ q hrd hfit hq
  obtain ⟨f0, f1, f2, f3, f4, f5, f6, f7⟩ := hfit
  obtain ⟨v1, v2, v5, v6, v7, rfl, h1, h2, h5, h6, h7⟩ := desk_rd hrd
  rw [desk_tot]
  have tn : rNet.tot (x0, x1) = (rSlc rEdge).tot x1 := net_tot
  have tt : rTrain.tot (x3, x4, x5) = (rSlc rBooking).tot x5 := train_tot
  have ts : rSidings.tot (x6, x7) = (rSlc rInt).tot x6 + (rSlc (rSlc rInt)).tot x7 := sidings_tot
  refine Run.intro c10 rfl ?_
  simp only [desk_val]
  simp (maxSteps := 4000000) (disch := omega) only [Zq, evO, vbox, wr, Zeq, if_true, if_false, Nat.reduceEqDiff, Nat.reduceAdd, Nat.reduceLeDiff, Nat.reduceSub, and_self, and_true, true_and, reduceIte, reduceCtorEq, eq_self, implies_true, forall_const, false_implies, imp_self, decide_true, decide_false, x10]
  refine GO_call ((szNet_is _ [.int .i64 x0, v1] (x0, x1) q (rNet.rdk (net_rd' h1) (Keep.push _ _)) ⟨f0, f1⟩ (by omega)).mono ?_)
  rintro w H1 ⟨k1, hw⟩
  have n1 := k1.nxt
  have g1 := k1.get H.nxt (by simp only [Zbg]; omega)
  simp (maxSteps := 4000000) (disch := omega) only [Zq, evO, vbox, wr, Zeq, if_true, if_false, Nat.reduceEqDiff, Nat.reduceAdd, Nat.reduceLeDiff, Nat.reduceSub, and_self, and_true, true_and, reduceIte, reduceCtorEq, eq_self, implies_true, forall_const, false_implies, imp_self, decide_true, decide_false] at n1 g1
  have K1 : Keep H H1 := Keep.trans (Keep.push _ _) k1
  rcases hw with rfl | ⟨q1, rfl, hq1⟩
  · simp (maxSteps := 4000000) (disch := omega) only [Zq, evO, vbox, wr, Zeq, if_true, if_false, Nat.reduceEqDiff, Nat.reduceAdd, Nat.reduceLeDiff, Nat.reduceSub, and_self, and_true, true_and, reduceIte, reduceCtorEq, eq_self, implies_true, forall_const, false_implies, imp_self, decide_true, decide_false, g1]
    exact ⟨K1, by simp⟩
  simp (maxSteps := 4000000) (disch := omega) only [Zq, evO, vbox, wr, Zeq, if_true, if_false, Nat.reduceEqDiff, Nat.reduceAdd, Nat.reduceLeDiff, Nat.reduceSub, and_self, and_true, true_and, reduceIte, reduceCtorEq, eq_self, implies_true, forall_const, false_implies, imp_self, decide_true, decide_false, g1]
  refine GO_call ((szTripS_is H1 [v2] x2 q1 ((rSlc rTrip).rdk h2 K1) f2 (by omega)).mono ?_)
  rintro w H2 ⟨k2, hw⟩
  have n2 := k2.nxt
  have g2 := (k2.get H.nxt (by omega)).trans g1
  have K2 : Keep H H2 := Keep.trans K1 k2
  rcases hw with rfl | ⟨q2, rfl, hq2⟩
  · simp (maxSteps := 4000000) (disch := omega) only [Zq, evO, vbox, wr, Zeq, if_true, if_false, Nat.reduceEqDiff, Nat.reduceAdd, Nat.reduceLeDiff, Nat.reduceSub, and_self, and_true, true_and, reduceIte, reduceCtorEq, eq_self, implies_true, forall_const, false_implies, imp_self, decide_true, decide_false, g2]
    exact ⟨K2, by simp⟩
  simp (maxSteps := 4000000) (disch := omega) only [Zq, evO, vbox, wr, Zeq, if_true, if_false, Nat.reduceEqDiff, Nat.reduceAdd, Nat.reduceLeDiff, Nat.reduceSub, and_self, and_true, true_and, reduceIte, reduceCtorEq, eq_self, implies_true, forall_const, false_implies, imp_self, decide_true, decide_false, g2]
  refine GO_call ((szTrain_is H2 [.int .i64 x3, .int .i64 x4, v5] (x3, x4, x5) q2 (train_rd' ((rSlc rBooking).rdk h5 K2)) ⟨f3, f4, f5⟩ (by omega)).mono ?_)
  rintro w H3 ⟨k3, hw⟩
  have n3 := k3.nxt
  have g3 := (k3.get H.nxt (by omega)).trans g2
  have K3 : Keep H H3 := Keep.trans K2 k3
  rcases hw with rfl | ⟨q3, rfl, hq3⟩
  · simp (maxSteps := 4000000) (disch := omega) only [Zq, evO, vbox, wr, Zeq, if_true, if_false, Nat.reduceEqDiff, Nat.reduceAdd, Nat.reduceLeDiff, Nat.reduceSub, and_self, and_true, true_and, reduceIte, reduceCtorEq, eq_self, implies_true, forall_const, false_implies, imp_self, decide_true, decide_false, g3]
    exact ⟨K3, by simp⟩
  simp (maxSteps := 4000000) (disch := omega) only [Zq, evO, vbox, wr, Zeq, if_true, if_false, Nat.reduceEqDiff, Nat.reduceAdd, Nat.reduceLeDiff, Nat.reduceSub, and_self, and_true, true_and, reduceIte, reduceCtorEq, eq_self, implies_true, forall_const, false_implies, imp_self, decide_true, decide_false, g3]
  refine GO_call ((szSidings_is H3 [v6, v7] (x6, x7) q3 (sidings_rd' ((rSlc rInt).rdk h6 K3) ((rSlc (rSlc rInt)).rdk h7 K3)) ⟨f6, f7⟩ (by omega)).mono ?_)
  rintro w H4 ⟨k4, hw⟩
  have n4 := k4.nxt
  have g4 := (k4.get H.nxt (by omega)).trans g3
  have K4 : Keep H H4 := Keep.trans K3 k4
  rcases hw with rfl | ⟨q4, rfl, hq4⟩
  · simp (maxSteps := 4000000) (disch := omega) only [Zq, evO, vbox, wr, Zeq, if_true, if_false, Nat.reduceEqDiff, Nat.reduceAdd, Nat.reduceLeDiff, Nat.reduceSub, and_self, and_true, true_and, reduceIte, reduceCtorEq, eq_self, implies_true, forall_const, false_implies, imp_self, decide_true, decide_false, g4]
    exact ⟨K4, by simp⟩
  simp (maxSteps := 4000000) (disch := omega) only [Zq, evO, vbox, wr, Zeq, if_true, if_false, Nat.reduceEqDiff, Nat.reduceAdd, Nat.reduceLeDiff, Nat.reduceSub, and_self, and_true, true_and, reduceIte, reduceCtorEq, eq_self, implies_true, forall_const, false_implies, imp_self, decide_true, decide_false, g4]
  exact ⟨K4, .inr ⟨q4, rfl, by omega⟩⟩
theorem eqDesk_is : IsEq Try.prog rDesk 7 := by
  rintro H cs ds ⟨b0, b1, b2, b3, b4, b5, b6, b7⟩ hrd hrd2 htot
  obtain ⟨v1, v2, v5, v6, v7, rfl, h1, h2, h5, h6, h7⟩ := desk_rd hrd
  obtain ⟨u1, u2, u5, u6, u7, rfl, l1, l2, l5, l6, l7⟩ := desk_rd hrd2
  rw [desk_tot] at htot
  have tn : rNet.tot (b0, b1) = (rSlc rEdge).tot b1 := net_tot
  have tt : rTrain.tot (b3, b4, b5) = (rSlc rBooking).tot b5 := train_tot
  have ts : rSidings.tot (b6, b7) = (rSlc rInt).tot b6 + (rSlc (rSlc rInt)).tot b7 := sidings_tot
  simp only [desk_val]
  refine Run.intro c7 rfl ?_
  simp (maxSteps := 4000000) (disch := omega) only [Zq, evO, vbox, wr, Zeq, if_true, if_false, Nat.reduceEqDiff, Nat.reduceAdd, Nat.reduceLeDiff, Nat.reduceSub, and_self, and_true, true_and, reduceIte, reduceCtorEq, eq_self, implies_true, forall_const, false_implies, imp_self, decide_true, decide_false, x7]
  generalize hG1 : H.push [.int .i64 b0, v1, v2, .int .i64 b3, .int .i64 b4, v5, v6, v7] = H1
  have k1 : Keep H H1 := by rw [← hG1]; exact Keep.push _ _
  have g1 : H1.get H.nxt = some (.own [.int .i64 b0, v1, v2, .int .i64 b3, .int .i64 b4, v5, v6, v7]) := by rw [← hG1, push_get', if_pos rfl]
  have n1 : H1.nxt = H.nxt + 1 := by rw [← hG1, Zbg]
  generalize hG2 : H1.push [.int .i64 b0, u1, u2, .int .i64 b3, .int .i64 b4, u5, u6, u7] = H2
  have k2 : Keep H1 H2 := by rw [← hG2]; exact Keep.push _ _
  have g2 : H2.get H1.nxt = some (.own [.int .i64 b0, u1, u2, .int .i64 b3, .int .i64 b4, u5, u6, u7]) := by rw [← hG2, push_get', if_pos rfl]
  have n2 : H2.nxt = H1.nxt + 1 := by rw [← hG2, Zbg]
  rw [n1] at g2
  have g12 := (k2.get H.nxt (by omega)).trans g1
  have k02 := k1.trans k2
  refine GO_call ((eqNet_is H2 [.int .i64 b0, v1] [.int .i64 b0, u1] (b0, b1) (rNet.rdk (net_rd' h1) k02) (rNet.rdk (net_rd' l1) k02) (by omega)).mono ?_)
  rintro _ H3 ⟨k3, rfl⟩
  have n3 := k3.nxt
  have g3 := (k3.get (H.nxt) (by omega)).trans g12
  have g3b := (k3.get ((H.nxt + 1)) (by omega)).trans g2
  have k03 := k02.trans k3
  simp (maxSteps := 4000000) (disch := omega) only [Zq, evO, vbox, wr, Zeq, if_true, if_false, Nat.reduceEqDiff, Nat.reduceAdd, Nat.reduceLeDiff, Nat.reduceSub, and_self, and_true, true_and, reduceIte, reduceCtorEq, eq_self, implies_true, forall_const, false_implies, imp_self, decide_true, decide_false, fix_nil, fix_cons, g1, g2, g12, g3, g3b]
  refine GO_call ((eqTripS_is H3 [v2] [u2] b2 ((rSlc rTrip).rdk h2 k03) ((rSlc rTrip).rdk l2 k03) (by omega)).mono ?_)
  rintro _ H4 ⟨k4, rfl⟩
  have n4 := k4.nxt
  have g4 := (k4.get (H.nxt) (by omega)).trans g3
  have g4b := (k4.get ((H.nxt + 1)) (by omega)).trans g3b
  have k04 := k03.trans k4
  simp (maxSteps := 4000000) (disch := omega) only [Zq, evO, vbox, wr, Zeq, if_true, if_false, Nat.reduceEqDiff, Nat.reduceAdd, Nat.reduceLeDiff, Nat.reduceSub, and_self, and_true, true_and, reduceIte, reduceCtorEq, eq_self, implies_true, forall_const, false_implies, imp_self, decide_true, decide_false, fix_nil, fix_cons, g1, g2, g12, g3, g3b, g4, g4b]
  refine GO_call ((eqTrain_is H4 [.int .i64 b3, .int .i64 b4, v5] [.int .i64 b3, .int .i64 b4, u5] (b3, b4, b5) (train_rd' ((rSlc rBooking).rdk h5 k04)) (train_rd' ((rSlc rBooking).rdk l5 k04)) (by omega)).mono ?_)
  rintro _ H5 ⟨k5, rfl⟩
  have n5 := k5.nxt
  have g5 := (k5.get (H.nxt) (by omega)).trans g4
  have g5b := (k5.get ((H.nxt + 1)) (by omega)).trans g4b
  have k05 := k04.trans k5
  simp (maxSteps := 4000000) (disch := omega) only [Zq, evO, vbox, wr, Zeq, if_true, if_false, Nat.reduceEqDiff, Nat.reduceAdd, Nat.reduceLeDiff, Nat.reduceSub, and_self, and_true, true_and, reduceIte, reduceCtorEq, eq_self, implies_true, forall_const, false_implies, imp_self, decide_true, decide_false, fix_nil, fix_cons, g1, g2, g12, g3, g3b, g4, g4b, g5, g5b]
  refine GO_call ((eqSidings_is H5 [v6, v7] [u6, u7] (b6, b7) (sidings_rd' ((rSlc rInt).rdk h6 k05) ((rSlc (rSlc rInt)).rdk h7 k05)) (sidings_rd' ((rSlc rInt).rdk l6 k05) ((rSlc (rSlc rInt)).rdk l7 k05)) (by omega)).mono ?_)
  rintro _ H6 ⟨k6, rfl⟩
  have n6 := k6.nxt
  simp (maxSteps := 4000000) (disch := omega) only [Zq, evO, vbox, wr, Zeq, if_true, if_false, Nat.reduceEqDiff, Nat.reduceAdd, Nat.reduceLeDiff, Nat.reduceSub, and_self, and_true, true_and, reduceIte, reduceCtorEq, eq_self, implies_true, forall_const, false_implies, imp_self, decide_true, decide_false, fix_nil, fix_cons, g1, g2, g12, g3, g3b, g4, g4b, g5, g5b]
  exact k05.trans k6
theorem toDesk_is : IsTo Try.prog rDesk 12 := by
  rintro H cs ⟨b0, b1, b2, b3, b4, b5, b6, b7⟩ hrd htot
  obtain ⟨v1, v2, v5, v6, v7, rfl, h1, h2, h5, h6, h7⟩ := desk_rd hrd
  rw [desk_tot] at htot
  have tn : rNet.tot (b0, b1) = (rSlc rEdge).tot b1 := net_tot
  have tt : rTrain.tot (b3, b4, b5) = (rSlc rBooking).tot b5 := train_tot
  have ts : rSidings.tot (b6, b7) = (rSlc rInt).tot b6 + (rSlc (rSlc rInt)).tot b7 := sidings_tot
  simp only [desk_val]
  refine Run.intro c12 rfl ?_
  simp (maxSteps := 4000000) (disch := omega) only [Zq, evO, vbox, wr, Zeq, if_true, if_false, Nat.reduceEqDiff, Nat.reduceAdd, Nat.reduceLeDiff, Nat.reduceSub, and_self, and_true, true_and, reduceIte, reduceCtorEq, eq_self, implies_true, forall_const, false_implies, imp_self, decide_true, decide_false, x12]
  generalize hG : ((H.push [.int .i64 b0, v1, v2, .int .i64 b3, .int .i64 b4, v5, v6, v7]).push [.int .i64 0, .slice none 0 0, .slice none 0 0, .int .i64 0, .int .i64 0, .slice none 0 0, .slice none 0 0, .slice none 0 0]).push [.int .i64 0, .slice none 0 0, .slice none 0 0, .int .i64 0, .int .i64 0, .slice none 0 0, .slice none 0 0, .slice none 0 0] = J0
  have K0 : Keep H J0 := by rw [← hG]; repeat' (first | exact Keep.refl _ | assumption | refine Keep.push' ?_ | refine Keep.set' ?_ ?_ | refine Keep.moved' ?_ ?_ | omega)
  have nJ0 : J0.nxt = H.nxt + 3 := by rw [← hG]; simp only [Zbg]
  have gA0 : J0.get H.nxt = some (.own [.int .i64 b0, v1, v2, .int .i64 b3, .int .i64 b4, v5, v6, v7]) := by rw [← hG]; simp (maxSteps := 4000000) (disch := omega) only [Zq, evO, vbox, wr, Zeq, if_true, if_false, Nat.reduceEqDiff, Nat.reduceAdd, Nat.reduceLeDiff, Nat.reduceSub, and_self, and_true, true_and, reduceIte, reduceCtorEq, eq_self, implies_true, forall_const, false_implies, imp_self, decide_true, decide_false]
  have gB0 : J0.get (H.nxt + 1) = some (.own [.int .i64 0, .slice none 0 0, .slice none 0 0, .int .i64 0, .int .i64 0, .slice none 0 0, .slice none 0 0, .slice none 0 0]) := by rw [← hG]; simp (maxSteps := 4000000) (disch := omega) only [Zq, evO, vbox, wr, Zeq, if_true, if_false, Nat.reduceEqDiff, Nat.reduceAdd, Nat.reduceLeDiff, Nat.reduceSub, and_self, and_true, true_and, reduceIte, reduceCtorEq, eq_self, implies_true, forall_const, false_implies, imp_self, decide_true, decide_false]
  have gC0 : J0.get (H.nxt + 2) = some (.own [.int .i64 0, .slice none 0 0, .slice none 0 0, .int .i64 0, .int .i64 0, .slice none 0 0, .slice none 0 0, .slice none 0 0]) := by rw [← hG]; simp (maxSteps := 4000000) (disch := omega) only [Zq, evO, vbox, wr, Zeq, if_true, if_false, Nat.reduceEqDiff, Nat.reduceAdd, Nat.reduceLeDiff, Nat.reduceSub, and_self, and_true, true_and, reduceIte, reduceCtorEq, eq_self, implies_true, forall_const, false_implies, imp_self, decide_true, decide_false]
  clear hG
  refine GO_call ((toNet_is J0 [.int .i64 b0, v1] (b0, b1) (net_rd' ((rSlc rEdge).rdk h1 K0)) (by omega)).mono ?_)
  rintro _ H1 ⟨k1, _, _, rfl, o1, f1⟩
  obtain ⟨y1, F1, rfl, p1, hF1⟩ := net_own o1
  rw [hF1] at f1
  obtain ⟨y1a, y1b⟩ := slc_cell ((rSlc rEdge).ownrd p1)
  have n1 := k1.nxt
  have hA1 := (k1.get H.nxt (by omega)).trans gA0
  have hB1 := (k1.get (H.nxt + 1) (by omega)).trans gB0
  have hC1 := (k1.get (H.nxt + 2) (by omega)).trans gC0
  simp only [net_val]
  simp (maxSteps := 4000000) (disch := omega) only [Zq, evO, vbox, wr, Zeq, if_true, if_false, Nat.reduceEqDiff, Nat.reduceAdd, Nat.reduceLeDiff, Nat.reduceSub, and_self, and_true, true_and, reduceIte, reduceCtorEq, eq_self, implies_true, forall_const, false_implies, imp_self, decide_true, decide_false, hA1, hB1, hC1, y1a, y1b]
  generalize hG : H1.set (H.nxt + 2) [.int .i64 b0, y1, .slice none 0 0, .int .i64 0, .int .i64 0, .slice none 0 0, .slice none 0 0, .slice none 0 0] = J1
  have c1 : Chg [H.nxt + 1, H.nxt + 2] H1 J1 := by rw [← hG]; exact Chg.set (by simp)
  have nJ1 : J1.nxt = H1.nxt := by rw [← hG, Zbh]
  have gA1 : J1.get H.nxt = some (.own [.int .i64 b0, v1, v2, .int .i64 b3, .int .i64 b4, v5, v6, v7]) := by rw [← hG, Zbi, if_neg (by omega)]; exact hA1
  have gB1 : J1.get (H.nxt + 1) = some (.own [.int .i64 0, .slice none 0 0, .slice none 0 0, .int .i64 0, .int .i64 0, .slice none 0 0, .slice none 0 0, .slice none 0 0]) := by rw [← hG, Zbi, if_neg (by omega)]; exact hB1
  have gC1 : J1.get (H.nxt + 2) = some (.own [.int .i64 b0, y1, .slice none 0 0, .int .i64 0, .int .i64 0, .slice none 0 0, .slice none 0 0, .slice none 0 0]) := by rw [← hG, Zbi, if_pos rfl]
  clear hG
  have K1 : Keep H J1 := c1.keep (K0.trans k1) (fun i hi => by simp only [List.mem_cons, List.not_mem_nil, or_false] at hi; omega)
  have f12 : ∀ a ∈ F1, H.nxt + 3 ≤ a ∧ a < J1.nxt := fun a ha => by have := f1.2 a ha; omega
  have p1 := (rSlc rEdge).ownChg p1 c1 (fun a ha => by have := (fun a (ha : a ∈ F1) => (f12 a (ha)).1) a ha; simp only [List.mem_cons, List.not_mem_nil, or_false, not_or]; omega)
  refine GO_call ((toTripS_is J1 [v2] b2 ((rSlc rTrip).rdk h2 K1) (by omega)).mono ?_)
  rintro _ H2 ⟨k2, _, F2, rfl, p2, f2⟩
  obtain ⟨y2, rfl⟩ := slc_one ((rSlc rTrip).ownrd p2)
  obtain ⟨y2a, y2b⟩ := slc_cell ((rSlc rTrip).ownrd p2)
  have n2 := k2.nxt
  have hA2 := (k2.get H.nxt (by omega)).trans gA1
  have hB2 := (k2.get (H.nxt + 1) (by omega)).trans gB1
  have hC2 := (k2.get (H.nxt + 2) (by omega)).trans gC1
  have p1 := (rSlc rEdge).ownKeep p1 k2
  simp only [slc_val]
  simp (maxSteps := 4000000) (disch := omega) only [Zq, evO, vbox, wr, Zeq, if_true, if_false, Nat.reduceEqDiff, Nat.reduceAdd, Nat.reduceLeDiff, Nat.reduceSub, and_self, and_true, true_and, reduceIte, reduceCtorEq, eq_self, implies_true, forall_const, false_implies, imp_self, decide_true, decide_false, hA2, hB2, hC2, y1a, y1b, y2a, y2b]
  generalize hG : H2.set (H.nxt + 2) [.int .i64 b0, y1, y2, .int .i64 0, .int .i64 0, .slice none 0 0, .slice none 0 0, .slice none 0 0] = J2
  have c2 : Chg [H.nxt + 1, H.nxt + 2] H2 J2 := by rw [← hG]; exact Chg.set (by simp)
  have nJ2 : J2.nxt = H2.nxt := by rw [← hG, Zbh]
  have gA2 : J2.get H.nxt = some (.own [.int .i64 b0, v1, v2, .int .i64 b3, .int .i64 b4, v5, v6, v7]) := by rw [← hG, Zbi, if_neg (by omega)]; exact hA2
  have gB2 : J2.get (H.nxt + 1) = some (.own [.int .i64 0, .slice none 0 0, .slice none 0 0, .int .i64 0, .int .i64 0, .slice none 0 0, .slice none 0 0, .slice none 0 0]) := by rw [← hG, Zbi, if_neg (by omega)]; exact hB2
  have gC2 : J2.get (H.nxt + 2) = some (.own [.int .i64 b0, y1, y2, .int .i64 0, .int .i64 0, .slice none 0 0, .slice none 0 0, .slice none 0 0]) := by rw [← hG, Zbi, if_pos rfl]
  clear hG
  have K2 : Keep H J2 := c2.keep (K1.trans k2) (fun i hi => by simp only [List.mem_cons, List.not_mem_nil, or_false] at hi; omega)
  have f22 : ∀ a ∈ F2, H.nxt + 3 ≤ a ∧ a < J2.nxt := fun a ha => by have := f2.2 a ha; omega
  have p1 := (rSlc rEdge).ownChg p1 c2 (fun a ha => by have := (fun a (ha : a ∈ F1) => (f12 a (ha)).1) a ha; simp only [List.mem_cons, List.not_mem_nil, or_false, not_or]; omega)
  have p2 := (rSlc rTrip).ownChg p2 c2 (fun a ha => by have := (fun a (ha : a ∈ F2) => (f22 a (ha)).1) a ha; simp only [List.mem_cons, List.not_mem_nil, or_false, not_or]; omega)
  refine GO_call ((toTrain_is J2 [.int .i64 b3, .int .i64 b4, v5] (b3, b4, b5) (train_rd' ((rSlc rBooking).rdk h5 K2)) (by omega)).mono ?_)
  rintro _ H3 ⟨k3, _, _, rfl, o3, f3⟩
  obtain ⟨y5, F5, rfl, p5, hF3⟩ := train_own o3
  rw [hF3] at f3
  obtain ⟨y5a, y5b⟩ := slc_cell ((rSlc rBooking).ownrd p5)
  have n3 := k3.nxt
  have hA3 := (k3.get H.nxt (by omega)).trans gA2
  have hB3 := (k3.get (H.nxt + 1) (by omega)).trans gB2
  have hC3 := (k3.get (H.nxt + 2) (by omega)).trans gC2
  have p1 := (rSlc rEdge).ownKeep p1 k3
  have p2 := (rSlc rTrip).ownKeep p2 k3
  simp only [train_val]
  simp (maxSteps := 4000000) (disch := omega) only [Zq, evO, vbox, wr, Zeq, if_true, if_false, Nat.reduceEqDiff, Nat.reduceAdd, Nat.reduceLeDiff, Nat.reduceSub, and_self, and_true, true_and, reduceIte, reduceCtorEq, eq_self, implies_true, forall_const, false_implies, imp_self, decide_true, decide_false, hA3, hB3, hC3, y1a, y1b, y2a, y2b, y5a, y5b]
  generalize hG : H3.set (H.nxt + 2) [.int .i64 b0, y1, y2, .int .i64 b3, .int .i64 b4, y5, .slice none 0 0, .slice none 0 0] = J3
  have c3 : Chg [H.nxt + 1, H.nxt + 2] H3 J3 := by rw [← hG]; exact Chg.set (by simp)
  have nJ3 : J3.nxt = H3.nxt := by rw [← hG, Zbh]
  have gA3 : J3.get H.nxt = some (.own [.int .i64 b0, v1, v2, .int .i64 b3, .int .i64 b4, v5, v6, v7]) := by rw [← hG, Zbi, if_neg (by omega)]; exact hA3
  have gB3 : J3.get (H.nxt + 1) = some (.own [.int .i64 0, .slice none 0 0, .slice none 0 0, .int .i64 0, .int .i64 0, .slice none 0 0, .slice none 0 0, .slice none 0 0]) := by rw [← hG, Zbi, if_neg (by omega)]; exact hB3
  have gC3 : J3.get (H.nxt + 2) = some (.own [.int .i64 b0, y1, y2, .int .i64 b3, .int .i64 b4, y5, .slice none 0 0, .slice none 0 0]) := by rw [← hG, Zbi, if_pos rfl]
  clear hG
  have K3 : Keep H J3 := c3.keep (K2.trans k3) (fun i hi => by simp only [List.mem_cons, List.not_mem_nil, or_false] at hi; omega)
  have f32 : ∀ a ∈ F5, H.nxt + 3 ≤ a ∧ a < J3.nxt := fun a ha => by have := f3.2 a ha; omega
  have p1 := (rSlc rEdge).ownChg p1 c3 (fun a ha => by have := (fun a (ha : a ∈ F1) => (f12 a (ha)).1) a ha; simp only [List.mem_cons, List.not_mem_nil, or_false, not_or]; omega)
  have p2 := (rSlc rTrip).ownChg p2 c3 (fun a ha => by have := (fun a (ha : a ∈ F2) => (f22 a (ha)).1) a ha; simp only [List.mem_cons, List.not_mem_nil, or_false, not_or]; omega)
  have p5 := (rSlc rBooking).ownChg p5 c3 (fun a ha => by have := (fun a (ha : a ∈ F5) => (f32 a (ha)).1) a ha; simp only [List.mem_cons, List.not_mem_nil, or_false, not_or]; omega)
  refine GO_call ((toSidings_is J3 [v6, v7] (b6, b7) (sidings_rd' ((rSlc rInt).rdk h6 K3) ((rSlc (rSlc rInt)).rdk h7 K3)) (by omega)).mono ?_)
  rintro _ H4 ⟨k4, _, _, rfl, o4, f4⟩
  obtain ⟨y6, y7, F6, F7, rfl, p6, p7, hF4⟩ := sidings_own o4
  rw [hF4] at f4
  obtain ⟨y6a, y6b⟩ := slc_cell ((rSlc rInt).ownrd p6)
  obtain ⟨y7a, y7b⟩ := slc_cell ((rSlc (rSlc rInt)).ownrd p7)
  have n4 := k4.nxt
  have hA4 := (k4.get H.nxt (by omega)).trans gA3
  have hB4 := (k4.get (H.nxt + 1) (by omega)).trans gB3
  have hC4 := (k4.get (H.nxt + 2) (by omega)).trans gC3
  have p1 := (rSlc rEdge).ownKeep p1 k4
  have p2 := (rSlc rTrip).ownKeep p2 k4
  have p5 := (rSlc rBooking).ownKeep p5 k4
  simp only [sidings_val]
  simp (maxSteps := 4000000) (disch := omega) only [Zq, evO, vbox, wr, Zeq, if_true, if_false, Nat.reduceEqDiff, Nat.reduceAdd, Nat.reduceLeDiff, Nat.reduceSub, and_self, and_true, true_and, reduceIte, reduceCtorEq, eq_self, implies_true, forall_const, false_implies, imp_self, decide_true, decide_false, hA4, hB4, hC4, y1a, y1b, y2a, y2b, y5a, y5b, y6a, y6b, y7a, y7b]
  generalize hG : (H4.set (H.nxt + 2) [.int .i64 b0, y1, y2, .int .i64 b3, .int .i64 b4, y5, y6, y7]).set (H.nxt + 1) [.int .i64 b0, y1, y2, .int .i64 b3, .int .i64 b4, y5, y6, y7] = J4
  have c4 : Chg [H.nxt + 1, H.nxt + 2] H4 J4 := by rw [← hG]; exact (Chg.set (by simp)).trans (Chg.set (by simp))
  have nJ4 : J4.nxt = H4.nxt := by rw [← hG]; simp only [Zbh]
  have K4 : Keep H J4 := c4.keep (K3.trans k4) (fun i hi => by simp only [List.mem_cons, List.not_mem_nil, or_false] at hi; omega)
  have f42 : ∀ a ∈ F6 ++ F7, H.nxt + 3 ≤ a ∧ a < J4.nxt := fun a ha => by have := f4.2 a ha; omega
  have p1 := (rSlc rEdge).ownChg p1 c4 (fun a ha => by have := (fun a (ha : a ∈ F1) => (f12 a (ha)).1) a ha; simp only [List.mem_cons, List.not_mem_nil, or_false, not_or]; omega)
  have p2 := (rSlc rTrip).ownChg p2 c4 (fun a ha => by have := (fun a (ha : a ∈ F2) => (f22 a (ha)).1) a ha; simp only [List.mem_cons, List.not_mem_nil, or_false, not_or]; omega)
  have p5 := (rSlc rBooking).ownChg p5 c4 (fun a ha => by have := (fun a (ha : a ∈ F5) => (f32 a (ha)).1) a ha; simp only [List.mem_cons, List.not_mem_nil, or_false, not_or]; omega)
  have p6 := (rSlc rInt).ownChg p6 c4 (fun a ha => by have := (fun a (ha : a ∈ F6) => (f42 a (List.mem_append_left _ ha)).1) a ha; simp only [List.mem_cons, List.not_mem_nil, or_false, not_or]; omega)
  have p7 := (rSlc (rSlc rInt)).ownChg p7 c4 (fun a ha => by have := (fun a (ha : a ∈ F7) => (f42 a (List.mem_append_right _ ha)).1) a ha; simp only [List.mem_cons, List.not_mem_nil, or_false, not_or]; omega)
  have b1' : ∀ a ∈ F1, J0.nxt ≤ a ∧ a < H1.nxt := f1.2
  have b2' : ∀ a ∈ F2, J1.nxt ≤ a ∧ a < H2.nxt := f2.2
  have b5' : ∀ a ∈ F5, J2.nxt ≤ a ∧ a < H3.nxt := f3.2
  have b67 : ∀ a ∈ F6 ++ F7, J3.nxt ≤ a ∧ a < H4.nxt := f4.2
  have b567 : ∀ a ∈ F5 ++ (F6 ++ F7), J2.nxt ≤ a ∧ a < H4.nxt := fun a ha => by
    rcases List.mem_append.1 ha with h | h
    · have := b5' a h; omega
    · have := b67 a h; omega
  have b2567 : ∀ a ∈ F2 ++ (F5 ++ (F6 ++ F7)), J1.nxt ≤ a ∧ a < H4.nxt := fun a ha => by
    rcases List.mem_append.1 ha with h | h
    · have := b2' a h; omega
    · have := b567 a h; omega
  refine ⟨K4, [.int .i64 b0, y1, y2, .int .i64 b3, .int .i64 b4, y5, y6, y7], F1 ++ (F2 ++ (F5 ++ (F6 ++ F7))), desk_val.symm, desk_own' p1 p2 p5 p6 p7, ?_, fun i hi => ?_⟩
  · refine List.nodup_append.2 ⟨f1.1, List.nodup_append.2 ⟨f2.1, List.nodup_append.2 ⟨f3.1, f4.1, fun a ha b hb => ?_⟩, fun a ha b hb => ?_⟩, fun a ha b hb => ?_⟩
    · have := b5' a ha; have := b67 b hb; omega
    · have := b2' a ha; have := b567 b hb; omega
    · have := b1' a ha; have := b2567 b hb; omega
  · rcases List.mem_append.1 hi with h | h
    · have := b1' i h; omega
    · have := b2567 i h; omega
end Go.Proofs.Ytkadelndmaegdaa.AX
