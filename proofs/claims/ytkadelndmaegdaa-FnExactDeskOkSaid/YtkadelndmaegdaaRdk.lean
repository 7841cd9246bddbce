/- Trains, sidings: what the laws' helpers do. No condition beyond each law's own; of the program: the functions' forms. -/
import Derived.Test.YtkadelndmaegdaaRtrip
import Derived.Test.YtkadelndmaegdaaAXzf
namespace Go.Proofs.Ytkadelndmaegdaa.AX
open Go
set_option maxRecDepth 10000
set_option maxHeartbeats 4000000
set_option linter.unusedSimpArgs false
set_option linter.unusedVariables false
-- Booking
def bookingC (x : Int × Int × Int × Int) : List Value := [.int .i64 x.1, .int .i64 x.2.1, .int .i64 x.2.2.1, .int .i64 x.2.2.2]
theorem bookingC_len (x : Int × Int × Int × Int) : (bookingC x).length = 4 := rfl
def bookingM (x : Int × Int × Int × Int) (k : Nat) : (Int × Int × Int × Int) × Nat := ((((k + 0 : Nat) : Int), ((k + 1 : Nat) : Int), ((k + 2 : Nat) : Int), ((k + 3 : Nat) : Int)), k + 4)
abbrev rBooking : Rep (Int × Int × Int × Int) := flatRep bookingC 4 bookingC_len bookingM
theorem booking_val (x : Int × Int × Int × Int) : rBooking.val (bookingC x) = .agg #[.int .i64 x.1, .int .i64 x.2.1, .int .i64 x.2.2.1, .int .i64 x.2.2.2] := nofl rfl
theorem marB_Booking : MarB rBooking := fun x k => by show k + 4 ≤ _; omega
-- Train
def rTrain : Rep (Int × Int × (List (Int × Int × Int × Int))) := rPair rInt (rPair rInt (rSlc rBooking))
theorem train_rd {H : Heap} {cs : List Value} {x0 : Int} {x1 : Int} {x2 : List (Int × Int × Int × Int)} (h : rTrain.rd H cs (x0, x1, x2)) : ∃ v2, cs = [.int .i64 x0, .int .i64 x1, v2] ∧ (rSlc rBooking).rd H [v2] x2 := by
  obtain ⟨c0, d0, rfl, h0, c1, d1, rfl, h1, h2⟩ := h
  have e0 : c0 = [.int .i64 x0] := h0
  subst e0
  have e1 : c1 = [.int .i64 x1] := h1
  subst e1
  obtain ⟨v2, rfl⟩ := slc_one h2
  exact ⟨v2, rfl, h2⟩
theorem train_rd' {H : Heap} {v2 : Value} {x0 : Int} {x1 : Int} {x2 : List (Int × Int × Int × Int)} (h2 : (rSlc rBooking).rd H [v2] x2) : rTrain.rd H [.int .i64 x0, .int .i64 x1, v2] (x0, x1, x2) := ⟨[.int .i64 x0], _, rfl, rfl, ⟨[.int .i64 x1], _, rfl, rfl, h2⟩⟩
theorem train_own {H : Heap} {cs : List Value} {x0 : Int} {x1 : Int} {x2 : List (Int × Int × Int × Int)} {F : List Nat} (h : rTrain.own H cs (x0, x1, x2) F) : ∃ v2 F2, cs = [.int .i64 x0, .int .i64 x1, v2] ∧ (rSlc rBooking).own H [v2] x2 F2 ∧ F = F2 := by
  obtain ⟨c0, d0, E0, G0, rfl, h0, ⟨c1, d1, E1, G1, rfl, h1, h2, rfl⟩, rfl⟩ := h
  obtain ⟨e0, f0⟩ : c0 = [.int .i64 x0] ∧ E0 = [] := h0
  subst e0 f0
  obtain ⟨e1, f1⟩ : c1 = [.int .i64 x1] ∧ E1 = [] := h1
  subst e1 f1
  obtain ⟨v2, rfl⟩ := slc_one ((rSlc rBooking).ownrd h2)
  exact ⟨v2, G1, rfl, h2, by simp⟩
theorem train_own' {H : Heap} {v2 : Value} {x0 : Int} {x1 : Int} {x2 : List (Int × Int × Int × Int)} {F2 : List Nat} (h2 : (rSlc rBooking).own H [v2] x2 F2) : rTrain.own H [.int .i64 x0, .int .i64 x1, v2] (x0, x1, x2) (F2) := by
  have e : F2 = ([] : List Nat) ++ (([] : List Nat) ++ F2) := by simp
  rw [e]
  exact ⟨[.int .i64 x0], _, [], _, rfl, ⟨rfl, rfl⟩, ⟨[.int .i64 x1], _, [], _, rfl, ⟨rfl, rfl⟩, h2, rfl⟩, rfl⟩
theorem train_val {v2 : Value} {x0 : Int} {x1 : Int} : rTrain.val [.int .i64 x0, .int .i64 x1, v2] = .agg #[.int .i64 x0, .int .i64 x1, v2] := nofl rfl
theorem train_tot {x0 : Int} {x1 : Int} {x2 : List (Int × Int × Int × Int)} : rTrain.tot (x0, x1, x2) = (rSlc rBooking).tot x2 := by
  show 0 + (0 + (rSlc rBooking).tot x2) = _
  omega
theorem marB_Train : MarB rTrain := MarB.of (MarC.pair (MarC.leaf (f := .int .i64) (m := fun k => (k : Int)) (hf := oneCell_int)) (MarC.pair (MarC.leaf (f := .int .i64) (m := fun k => (k : Int)) (hf := oneCell_int)) (MarC.slc marB_Booking))) (by omega)
theorem szBookingS_is : IsSz Try.prog (rSlc rBooking) 60 := szFlat_is c60 (fun _ => rfl)
theorem szTrain_is : IsSz Try.prog rTrain 28 := by
  rintro H cs ⟨x0, x1, x2⟩ q hrd hfit hq
  obtain ⟨f0, f1, f2⟩ := hfit
  obtain ⟨v2, rfl, h2⟩ := train_rd hrd
  rw [train_tot]
  refine Run.intro c28 rfl ?_
  simp only [train_val]
  simp (maxSteps := 4000000) (disch := omega) only [Zq, evO, vbox, wr, Zeq, if_true, if_false, Nat.reduceEqDiff, Nat.reduceAdd, Nat.reduceLeDiff, Nat.reduceSub, and_self, and_true, true_and, reduceIte, reduceCtorEq, eq_self, implies_true, forall_const, false_implies, imp_self, decide_true, decide_false, x28]
  refine GO_call ((szBookingS_is _ [v2] x2 q ((rSlc rBooking).rdk h2 (Keep.push _ _)) f2 (by omega)).mono ?_)
  rintro w H1 ⟨k1, hw⟩
  have n1 := k1.nxt
  have g1 := k1.get H.nxt (by simp only [Zbg]; omega)
  simp (maxSteps := 4000000) (disch := omega) only [Zq, evO, vbox, wr, Zeq, if_true, if_false, Nat.reduceEqDiff, Nat.reduceAdd, Nat.reduceLeDiff, Nat.reduceSub, and_self, and_true, true_and, reduceIte, reduceCtorEq, eq_self, implies_true, forall_const, false_implies, imp_self, decide_true, decide_false] at n1 g1
  have K1 : Keep H H1 := Keep.trans (Keep.push _ _) k1
  rcases hw with rfl | ⟨q1, rfl, hq1⟩
  · simp (maxSteps := 4000000) (disch := omega) only [Zq, evO, vbox, wr, Zeq, if_true, if_false, Nat.reduceEqDiff, Nat.reduceAdd, Nat.reduceLeDiff, Nat.reduceSub, and_self, and_true, true_and, reduceIte, reduceCtorEq, eq_self, implies_true, forall_const, false_implies, imp_self, decide_true, decide_false, g1]
    exact ⟨K1, by simp⟩
  simp (maxSteps := 4000000) (disch := omega) only [Zq, evO, vbox, wr, Zeq, if_true, if_false, Nat.reduceEqDiff, Nat.reduceAdd, Nat.reduceLeDiff, Nat.reduceSub, and_self, and_true, true_and, reduceIte, reduceCtorEq, eq_self, implies_true, forall_const, false_implies, imp_self, decide_true, decide_false, g1]
  exact ⟨K1, .inr ⟨q1, rfl, by omega⟩⟩
theorem toBooking_is : IsTo Try.prog rBooking 85 := by
  intro H cs a hrd _
  have e : cs = bookingC a := hrd
  subst e
  refine Run.intro c85 rfl ?_
  simp only [booking_val]
  simp (maxSteps := 4000000) (disch := omega) only [Zq, evO, vbox, wr, Zeq, if_true, if_false, Nat.reduceEqDiff, Nat.reduceAdd, Nat.reduceLeDiff, Nat.reduceSub, and_self, and_true, true_and, reduceIte, reduceCtorEq, eq_self, implies_true, forall_const, false_implies, imp_self, decide_true, decide_false, x85]
  exact ⟨by repeat' (first | exact Keep.refl _ | assumption | refine Keep.push' ?_ | refine Keep.set' ?_ ?_ | refine Keep.moved' ?_ ?_ | omega), bookingC a, [], rfl, ⟨rfl, rfl⟩, List.nodup_nil, fun i hi => by cases hi⟩
theorem elemBooking : Elem rBooking true 4 := ⟨rfl, by omega, fun _ _ => rfl, fun h => by cases h⟩
theorem toBookingS_is : IsTo Try.prog (rSlc rBooking) 68 := toCall_is (agg := true) (sz := 4) (bytes := 32) (zs := [.int .i64 0, .int .i64 0, .int .i64 0, .int .i64 0]) c68 (by omega) rfl elemBooking toBooking_is
theorem toTrain_is : IsTo Try.prog rTrain 36 := by
  rintro H cs ⟨x0, x1, x2⟩ hrd htot
  obtain ⟨v2, rfl, h2⟩ := train_rd hrd
  rw [train_tot] at htot
  refine Run.intro c36 rfl ?_
  simp only [train_val]
  simp (maxSteps := 4000000) (disch := omega) only [Zq, evO, vbox, wr, Zeq, if_true, if_false, Nat.reduceEqDiff, Nat.reduceAdd, Nat.reduceLeDiff, Nat.reduceSub, and_self, and_true, true_and, reduceIte, reduceCtorEq, eq_self, implies_true, forall_const, false_implies, imp_self, decide_true, decide_false, x36]
  have K0 : Keep H H := Keep.refl H
  refine GO_call ((toBookingS_is _ [v2] x2 ((rSlc rBooking).rdk h2 (by repeat' (first | exact Keep.refl _ | assumption | refine Keep.push' ?_ | refine Keep.set' ?_ ?_ | refine Keep.moved' ?_ ?_ | omega))) (by omega)).mono ?_)
  rintro _ H1 ⟨k1, _, F2, rfl, o2, f2⟩
  obtain ⟨y2, rfl⟩ := slc_one ((rSlc rBooking).ownrd o2)
  obtain ⟨y2a, y2b⟩ := slc_cell ((rSlc rBooking).ownrd o2)
  have n1 := k1.nxt
  have gA1 := k1.get H.nxt (by simp only [Zbg, Zbh]; omega)
  have gB1 := k1.get (H.nxt + 1) (by simp only [Zbg, Zbh]; omega)
  have gC1 := k1.get (H.nxt + 2) (by simp only [Zbg, Zbh]; omega)
  have K1 : Keep H H1 := Keep.trans (by repeat' (first | exact Keep.refl _ | assumption | refine Keep.push' ?_ | refine Keep.set' ?_ ?_ | refine Keep.moved' ?_ ?_ | omega)) k1
  simp (maxSteps := 4000000) (disch := omega) only [Zq, evO, vbox, wr, Zeq, if_true, if_false, Nat.reduceEqDiff, Nat.reduceAdd, Nat.reduceLeDiff, Nat.reduceSub, and_self, and_true, true_and, reduceIte, reduceCtorEq, eq_self, implies_true, forall_const, false_implies, imp_self, decide_true, decide_false] at n1 gA1 gB1 gC1
  have f22 := f2.2
  simp only [Zbg, Zbh] at f22
  simp only [slc_val]
  simp (maxSteps := 4000000) (disch := omega) only [Zq, evO, vbox, wr, Zeq, if_true, if_false, Nat.reduceEqDiff, Nat.reduceAdd, Nat.reduceLeDiff, Nat.reduceSub, and_self, and_true, true_and, reduceIte, reduceCtorEq, eq_self, implies_true, forall_const, false_implies, imp_self, decide_true, decide_false, gA1, gB1, gC1, y2a, y2b]
  refine ⟨by repeat' (first | exact Keep.refl _ | assumption | refine Keep.push' ?_ | refine Keep.set' ?_ ?_ | refine Keep.moved' ?_ ?_ | omega), [.int .i64 x0, .int .i64 x1, y2], F2, rfl, train_own' ((rSlc rBooking).ownChg (G := [H.nxt + 1, H.nxt + 2]) o2 (by repeat' (first | exact Chg.refl _ _ | refine Chg.trans ?_ (Chg.set (by simp)))) (fun a ha => by have := f22 a ha; simp only [List.mem_cons, List.not_mem_nil, or_false, not_or]; omega)), ?_, fun i hi => ?_⟩
  · skip
    exact f2.1
  · simp only [Zbh]
    have := f22 i hi
    omega
theorem eqBooking_is : IsEq Try.prog rBooking 80 := by
  intro H cs ds a hrd hrd2 _
  have e : cs = bookingC a := hrd
  have e2 : ds = bookingC a := hrd2
  subst e e2
  refine Run.intro c80 rfl ?_
  simp only [booking_val]
  simp (maxSteps := 4000000) (disch := omega) only [Zq, evO, vbox, wr, Zeq, if_true, if_false, Nat.reduceEqDiff, Nat.reduceAdd, Nat.reduceLeDiff, Nat.reduceSub, and_self, and_true, true_and, reduceIte, reduceCtorEq, eq_self, implies_true, forall_const, false_implies, imp_self, decide_true, decide_false, x80, vbinB_ne]
  try repeat' (first | exact Keep.refl _ | assumption | refine Keep.push' ?_ | refine Keep.set' ?_ ?_ | refine Keep.moved' ?_ ?_ | omega)
theorem eqBookingS_is : IsEq Try.prog (rSlc rBooking) 44 := eqCall_is (agg := true) (sz := 4) c44 elemBooking eqBooking_is
theorem eqTrain_is : IsEq Try.prog rTrain 16 := by
  rintro H cs ds ⟨x0, x1, x2⟩ hrd hrd2 htot
  obtain ⟨v2, rfl, h2⟩ := train_rd hrd
  obtain ⟨u2, rfl, l2⟩ := train_rd hrd2
  rw [train_tot] at htot
  refine Run.intro c16 rfl ?_
  simp only [train_val]
  simp (maxSteps := 4000000) (disch := omega) only [Zq, evO, vbox, wr, Zeq, if_true, if_false, Nat.reduceEqDiff, Nat.reduceAdd, Nat.reduceLeDiff, Nat.reduceSub, and_self, and_true, true_and, reduceIte, reduceCtorEq, eq_self, implies_true, forall_const, false_implies, imp_self, decide_true, decide_false, x16, vbinB_ne]
  refine GO_call ((eqBookingS_is _ [v2] [u2] x2 ((rSlc rBooking).rdk h2 (by repeat' (first | exact Keep.refl _ | assumption | refine Keep.push' ?_ | refine Keep.set' ?_ ?_ | refine Keep.moved' ?_ ?_ | omega))) ((rSlc rBooking).rdk l2 (by repeat' (first | exact Keep.refl _ | assumption | refine Keep.push' ?_ | refine Keep.set' ?_ ?_ | refine Keep.moved' ?_ ?_ | omega))) (by omega)).mono ?_)
  rintro _ H1 ⟨k1, rfl⟩
  have K1 : Keep H H1 := Keep.trans (by repeat' (first | exact Keep.refl _ | assumption | refine Keep.push' ?_ | refine Keep.set' ?_ ?_ | refine Keep.moved' ?_ ?_ | omega)) k1
  simp (maxSteps := 4000000) (disch := omega) only [Zq, evO, vbox, wr, Zeq, if_true, if_false, Nat.reduceEqDiff, Nat.reduceAdd, Nat.reduceLeDiff, Nat.reduceSub, and_self, and_true, true_and, reduceIte, reduceCtorEq, eq_self, implies_true, forall_const, false_implies, imp_self, decide_true, decide_false, vbinB_ne]
  try exact K1
-- Sidings
def rSidings : Rep ((List Int) × (List (List Int))) := rPair (rSlc rInt) (rSlc (rSlc rInt))
theorem sidings_rd {H : Heap} {cs : List Value} {x0 : List Int} {x1 : List (List Int)} (h : rSidings.rd H cs (x0, x1)) : ∃ v0 v1, cs = [v0, v1] ∧ (rSlc rInt).rd H [v0] x0 ∧ (rSlc (rSlc rInt)).rd H [v1] x1 := by
  obtain ⟨c0, d0, rfl, h0, h1⟩ := h
  obtain ⟨v0, rfl⟩ := slc_one h0
  obtain ⟨v1, rfl⟩ := slc_one h1
  exact ⟨v0, v1, rfl, h0, h1⟩
theorem sidings_rd' {H : Heap} {v0 v1 : Value} {x0 : List Int} {x1 : List (List Int)} (h0 : (rSlc rInt).rd H [v0] x0) (h1 : (rSlc (rSlc rInt)).rd H [v1] x1) : rSidings.rd H [v0, v1] (x0, x1) := ⟨[v0], _, rfl, h0, h1⟩
theorem sidings_own {H : Heap} {cs : List Value} {x0 : List Int} {x1 : List (List Int)} {F : List Nat} (h : rSidings.own H cs (x0, x1) F) : ∃ v0 v1 F0 F1, cs = [v0, v1] ∧ (rSlc rInt).own H [v0] x0 F0 ∧ (rSlc (rSlc rInt)).own H [v1] x1 F1 ∧ F = F0 ++ F1 := by
  obtain ⟨c0, d0, E0, G0, rfl, h0, h1, rfl⟩ := h
  obtain ⟨v0, rfl⟩ := slc_one ((rSlc rInt).ownrd h0)
  obtain ⟨v1, rfl⟩ := slc_one ((rSlc (rSlc rInt)).ownrd h1)
  exact ⟨v0, v1, E0, G0, rfl, h0, h1, by simp⟩
theorem sidings_own' {H : Heap} {v0 v1 : Value} {x0 : List Int} {x1 : List (List Int)} {F0 F1 : List Nat} (h0 : (rSlc rInt).own H [v0] x0 F0) (h1 : (rSlc (rSlc rInt)).own H [v1] x1 F1) : rSidings.own H [v0, v1] (x0, x1) (F0 ++ F1) := by
  exact ⟨[v0], _, F0, _, rfl, h0, h1, rfl⟩
theorem sidings_val {v0 v1 : Value}  : rSidings.val [v0, v1] = .agg #[v0, v1] := nofl rfl
theorem sidings_tot {x0 : List Int} {x1 : List (List Int)} : rSidings.tot (x0, x1) = (rSlc rInt).tot x0 + (rSlc (rSlc rInt)).tot x1 := by
  show (rSlc rInt).tot x0 + (rSlc (rSlc rInt)).tot x1 = _
  omega
theorem marB_Sidings : MarB rSidings := MarB.of (MarC.pair (MarC.slc MarB.int) (MarC.slc (MarB.slc MarB.int))) (by omega)
theorem szIntS_is : IsSz Try.prog (rSlc rInt) 61 := szPlain_is c61
theorem elemIntS : Elem (rSlc rInt) false 1 := ⟨rfl, by omega, fun h => (by cases h), fun _ => ⟨rfl, rfl⟩⟩
theorem szIntSS_is : IsSz Try.prog (rSlc (rSlc rInt)) 62 := szCall_is (agg := false) (sz := 1) c62 elemIntS szIntS_is
theorem szSidings_is : IsSz Try.prog rSidings 29 := by
  rintro H cs ⟨x0, x1⟩ q hrd hfit hq
  obtain ⟨f0, f1⟩ := hfit
  obtain ⟨v0, v1, rfl, h0, h1⟩ := sidings_rd hrd
  rw [sidings_tot]
  refine Run.intro c29 rfl ?_
  simp only [sidings_val]
  simp (maxSteps := 4000000) (disch := omega) only [Zq, evO, vbox, wr, Zeq, if_true, if_false, Nat.reduceEqDiff, Nat.reduceAdd, Nat.reduceLeDiff, Nat.reduceSub, and_self, and_true, true_and, reduceIte, reduceCtorEq, eq_self, implies_true, forall_const, false_implies, imp_self, decide_true, decide_false, x29]
  refine GO_call ((szIntS_is _ [v0] x0 q ((rSlc rInt).rdk h0 (Keep.push _ _)) f0 (by omega)).mono ?_)
  rintro w H1 ⟨k1, hw⟩
  have n1 := k1.nxt
  have g1 := k1.get H.nxt (by simp only [Zbg]; omega)
  simp (maxSteps := 4000000) (disch := omega) only [Zq, evO, vbox, wr, Zeq, if_true, if_false, Nat.reduceEqDiff, Nat.reduceAdd, Nat.reduceLeDiff, Nat.reduceSub, and_self, and_true, true_and, reduceIte, reduceCtorEq, eq_self, implies_true, forall_const, false_implies, imp_self, decide_true, decide_false] at n1 g1
  have K1 : Keep H H1 := Keep.trans (Keep.push _ _) k1
  rcases hw with rfl | ⟨q1, rfl, hq1⟩
  · simp (maxSteps := 4000000) (disch := omega) only [Zq, evO, vbox, wr, Zeq, if_true, if_false, Nat.reduceEqDiff, Nat.reduceAdd, Nat.reduceLeDiff, Nat.reduceSub, and_self, and_true, true_and, reduceIte, reduceCtorEq, eq_self, implies_true, forall_const, false_implies, imp_self, decide_true, decide_false, g1]
    exact ⟨K1, by simp⟩
  simp (maxSteps := 4000000) (disch := omega) only [Zq, evO, vbox, wr, Zeq, if_true, if_false, Nat.reduceEqDiff, Nat.reduceAdd, Nat.reduceLeDiff, Nat.reduceSub, and_self, and_true, true_and, reduceIte, reduceCtorEq, eq_self, implies_true, forall_const, false_implies, imp_self, decide_true, decide_false, g1]
  refine GO_call ((szIntSS_is _ [v1] x1 q1 ((rSlc (rSlc rInt)).rdk h1 K1) f1 (by omega)).mono ?_)
  rintro w H2 ⟨k2, hw⟩
  have n2 := k2.nxt
  have g2 := (k2.get H.nxt (by omega)).trans g1
  have K2 : Keep H H2 := Keep.trans K1 k2
  rcases hw with rfl | ⟨q2, rfl, hq2⟩
  · simp (maxSteps := 4000000) (disch := omega) only [Zq, evO, vbox, wr, Zeq, if_true, if_false, Nat.reduceEqDiff, Nat.reduceAdd, Nat.reduceLeDiff, Nat.reduceSub, and_self, and_true, true_and, reduceIte, reduceCtorEq, eq_self, implies_true, forall_const, false_implies, imp_self, decide_true, decide_false, g2]
    exact ⟨K2, by simp⟩
  simp (maxSteps := 4000000) (disch := omega) only [Zq, evO, vbox, wr, Zeq, if_true, if_false, Nat.reduceEqDiff, Nat.reduceAdd, Nat.reduceLeDiff, Nat.reduceSub, and_self, and_true, true_and, reduceIte, reduceCtorEq, eq_self, implies_true, forall_const, false_implies, imp_self, decide_true, decide_false, g2]
  exact ⟨K2, .inr ⟨q2, rfl, by omega⟩⟩
theorem toIntS_is : IsTo Try.prog (rSlc rInt) 69 := toPlain_is c69 (by omega)
theorem toIntSS_is : IsTo Try.prog (rSlc (rSlc rInt)) 70 := toCall_is (agg := false) (sz := 1) (bytes := 24) (zs := [.slice none 0 0]) c70 (by omega) rfl elemIntS toIntS_is
theorem toSidings_is : IsTo Try.prog rSidings 37 := by
  rintro H cs ⟨x0, x1⟩ hrd htot
  obtain ⟨v0, v1, rfl, h0, h1⟩ := sidings_rd hrd
  rw [sidings_tot] at htot
  refine Run.intro c37 rfl ?_
  simp only [sidings_val]
  simp (maxSteps := 4000000) (disch := omega) only [Zq, evO, vbox, wr, Zeq, if_true, if_false, Nat.reduceEqDiff, Nat.reduceAdd, Nat.reduceLeDiff, Nat.reduceSub, and_self, and_true, true_and, reduceIte, reduceCtorEq, eq_self, implies_true, forall_const, false_implies, imp_self, decide_true, decide_false, x37]
  have K0 : Keep H H := Keep.refl H
  refine GO_call ((toIntS_is _ [v0] x0 ((rSlc rInt).rdk h0 (by repeat' (first | exact Keep.refl _ | assumption | refine Keep.push' ?_ | refine Keep.set' ?_ ?_ | refine Keep.moved' ?_ ?_ | omega))) (by omega)).mono ?_)
  rintro _ H1 ⟨k1, _, F0, rfl, o0, f0⟩
  obtain ⟨y0, rfl⟩ := slc_one ((rSlc rInt).ownrd o0)
  obtain ⟨y0a, y0b⟩ := slc_cell ((rSlc rInt).ownrd o0)
  have n1 := k1.nxt
  have gA1 := k1.get H.nxt (by simp only [Zbg, Zbh]; omega)
  have gB1 := k1.get (H.nxt + 1) (by simp only [Zbg, Zbh]; omega)
  have gC1 := k1.get (H.nxt + 2) (by simp only [Zbg, Zbh]; omega)
  have K1 : Keep H H1 := Keep.trans (by repeat' (first | exact Keep.refl _ | assumption | refine Keep.push' ?_ | refine Keep.set' ?_ ?_ | refine Keep.moved' ?_ ?_ | omega)) k1
  simp (maxSteps := 4000000) (disch := omega) only [Zq, evO, vbox, wr, Zeq, if_true, if_false, Nat.reduceEqDiff, Nat.reduceAdd, Nat.reduceLeDiff, Nat.reduceSub, and_self, and_true, true_and, reduceIte, reduceCtorEq, eq_self, implies_true, forall_const, false_implies, imp_self, decide_true, decide_false] at n1 gA1 gB1 gC1
  have f02 := f0.2
  simp only [Zbg, Zbh] at f02
  simp only [slc_val]
  simp (maxSteps := 4000000) (disch := omega) only [Zq, evO, vbox, wr, Zeq, if_true, if_false, Nat.reduceEqDiff, Nat.reduceAdd, Nat.reduceLeDiff, Nat.reduceSub, and_self, and_true, true_and, reduceIte, reduceCtorEq, eq_self, implies_true, forall_const, false_implies, imp_self, decide_true, decide_false, gA1, gB1, gC1, y0a, y0b]
  refine GO_call ((toIntSS_is _ [v1] x1 ((rSlc (rSlc rInt)).rdk h1 (by repeat' (first | exact Keep.refl _ | assumption | refine Keep.push' ?_ | refine Keep.set' ?_ ?_ | refine Keep.moved' ?_ ?_ | omega))) (by omega)).mono ?_)
  rintro _ H2 ⟨k2, _, F1, rfl, o1, f1⟩
  obtain ⟨y1, rfl⟩ := slc_one ((rSlc (rSlc rInt)).ownrd o1)
  obtain ⟨y1a, y1b⟩ := slc_cell ((rSlc (rSlc rInt)).ownrd o1)
  have n2 := k2.nxt
  have gA2 := k2.get H.nxt (by simp only [Zbg, Zbh]; omega)
  have gB2 := k2.get (H.nxt + 1) (by simp only [Zbg, Zbh]; omega)
  have gC2 := k2.get (H.nxt + 2) (by simp only [Zbg, Zbh]; omega)
  have K2 : Keep H H2 := Keep.trans (by repeat' (first | exact Keep.refl _ | assumption | refine Keep.push' ?_ | refine Keep.set' ?_ ?_ | refine Keep.moved' ?_ ?_ | omega)) k2
  have C2_0 : Chg [H.nxt + 1, H.nxt + 2] H1 H2 := by
    refine Chg.trans ?_ k2.chg
    repeat' (first | exact Chg.refl _ _ | refine Chg.trans ?_ (Chg.set (by simp)))
  have o0 := (rSlc rInt).ownChg o0 C2_0 (fun a ha => by have := f02 a ha; simp only [List.mem_cons, List.not_mem_nil, or_false, not_or]; omega)
  simp (maxSteps := 4000000) (disch := omega) only [Zq, evO, vbox, wr, Zeq, if_true, if_false, Nat.reduceEqDiff, Nat.reduceAdd, Nat.reduceLeDiff, Nat.reduceSub, and_self, and_true, true_and, reduceIte, reduceCtorEq, eq_self, implies_true, forall_const, false_implies, imp_self, decide_true, decide_false, gA1, gB1, gC1, y0a, y0b] at n2 gA2 gB2 gC2
  have f12 := f1.2
  simp only [Zbg, Zbh] at f12
  simp only [slc_val]
  simp (maxSteps := 4000000) (disch := omega) only [Zq, evO, vbox, wr, Zeq, if_true, if_false, Nat.reduceEqDiff, Nat.reduceAdd, Nat.reduceLeDiff, Nat.reduceSub, and_self, and_true, true_and, reduceIte, reduceCtorEq, eq_self, implies_true, forall_const, false_implies, imp_self, decide_true, decide_false, gA2, gB2, gC2, y0a, y0b, y1a, y1b]
  refine ⟨by repeat' (first | exact Keep.refl _ | assumption | refine Keep.push' ?_ | refine Keep.set' ?_ ?_ | refine Keep.moved' ?_ ?_ | omega), [y0, y1], F0 ++ F1, rfl, sidings_own' ((rSlc rInt).ownChg (G := [H.nxt + 1, H.nxt + 2]) o0 (by repeat' (first | exact Chg.refl _ _ | refine Chg.trans ?_ (Chg.set (by simp)))) (fun a ha => by have := f02 a ha; simp only [List.mem_cons, List.not_mem_nil, or_false, not_or]; omega)) ((rSlc (rSlc rInt)).ownChg (G := [H.nxt + 1, H.nxt + 2]) o1 (by repeat' (first | exact Chg.refl _ _ | refine Chg.trans ?_ (Chg.set (by simp)))) (fun a ha => by have := f12 a ha; simp only [List.mem_cons, List.not_mem_nil, or_false, not_or]; omega)), ?_, fun i hi => ?_⟩
  · skip
    refine List.nodup_append.2 ⟨f0.1, ?_, fun a ha b hb => ?_⟩
    · skip
      exact f1.1
    · have := f02 a ha
      have := f12 b hb
      omega
  · simp only [Zbh]
    simp only [List.mem_append] at hi
    rcases hi with hi | hi
    · have := f02 i hi; omega
    · have := f12 i hi; omega
theorem eqIntS_is : IsEq Try.prog (rSlc rInt) 45 := eqPlain_is c45 (fun z => by rw [Zdv]; simp)
theorem eqIntSS_is : IsEq Try.prog (rSlc (rSlc rInt)) 46 := eqCall_is (agg := false) (sz := 1) c46 elemIntS eqIntS_is
theorem eqSidings_is : IsEq Try.prog rSidings 17 := by
  rintro H cs ds ⟨x0, x1⟩ hrd hrd2 htot
  obtain ⟨v0, v1, rfl, h0, h1⟩ := sidings_rd hrd
  obtain ⟨u0, u1, rfl, l0, l1⟩ := sidings_rd hrd2
  rw [sidings_tot] at htot
  refine Run.intro c17 rfl ?_
  simp only [sidings_val]
  simp (maxSteps := 4000000) (disch := omega) only [Zq, evO, vbox, wr, Zeq, if_true, if_false, Nat.reduceEqDiff, Nat.reduceAdd, Nat.reduceLeDiff, Nat.reduceSub, and_self, and_true, true_and, reduceIte, reduceCtorEq, eq_self, implies_true, forall_const, false_implies, imp_self, decide_true, decide_false, x17, vbinB_ne]
  refine GO_call ((eqIntS_is _ [v0] [u0] x0 ((rSlc rInt).rdk h0 (by repeat' (first | exact Keep.refl _ | assumption | refine Keep.push' ?_ | refine Keep.set' ?_ ?_ | refine Keep.moved' ?_ ?_ | omega))) ((rSlc rInt).rdk l0 (by repeat' (first | exact Keep.refl _ | assumption | refine Keep.push' ?_ | refine Keep.set' ?_ ?_ | refine Keep.moved' ?_ ?_ | omega))) (by omega)).mono ?_)
  rintro _ H1 ⟨k1, rfl⟩
  have n1 := k1.nxt
  have gA1 := k1.get H.nxt (by simp only [Zbg]; omega)
  have gB1 := k1.get (H.nxt + 1) (by simp only [Zbg]; omega)
  simp (maxSteps := 4000000) (disch := omega) only [Zq, evO, vbox, wr, Zeq, if_true, if_false, Nat.reduceEqDiff, Nat.reduceAdd, Nat.reduceLeDiff, Nat.reduceSub, and_self, and_true, true_and, reduceIte, reduceCtorEq, eq_self, implies_true, forall_const, false_implies, imp_self, decide_true, decide_false] at n1 gA1 gB1
  have K1 : Keep H H1 := Keep.trans (by repeat' (first | exact Keep.refl _ | assumption | refine Keep.push' ?_ | refine Keep.set' ?_ ?_ | refine Keep.moved' ?_ ?_ | omega)) k1
  simp (maxSteps := 4000000) (disch := omega) only [Zq, evO, vbox, wr, Zeq, if_true, if_false, Nat.reduceEqDiff, Nat.reduceAdd, Nat.reduceLeDiff, Nat.reduceSub, and_self, and_true, true_and, reduceIte, reduceCtorEq, eq_self, implies_true, forall_const, false_implies, imp_self, decide_true, decide_false, vbinB_ne, gA1, gB1]
  refine GO_call ((eqIntSS_is _ [v1] [u1] x1 ((rSlc (rSlc rInt)).rdk h1 K1) ((rSlc (rSlc rInt)).rdk l1 K1) (by omega)).mono ?_)
  rintro _ H2 ⟨k2, rfl⟩
  have K2 : Keep H H2 := Keep.trans K1 k2
  simp (maxSteps := 4000000) (disch := omega) only [Zq, evO, vbox, wr, Zeq, if_true, if_false, Nat.reduceEqDiff, Nat.reduceAdd, Nat.reduceLeDiff, Nat.reduceSub, and_self, and_true, true_and, reduceIte, reduceCtorEq, eq_self, implies_true, forall_const, false_implies, imp_self, decide_true, decide_false, vbinB_ne, gA1, gB1]
  try exact K2
end Go.Proofs.Ytkadelndmaegdaa.AX
