/- Plants and lockings: what the laws' helpers do. No condition beyond each law's own; of the program: the functions' forms. -/
import Derived.Test.YthjphddodooahaaXF
import Derived.Test.YthjphddodooahaaAXzg
namespace Go.Proofs.Ythjphddodooahaa.AX
open Go
set_option maxRecDepth 10000
set_option maxHeartbeats 4000000
set_option linter.unusedSimpArgs false
set_option linter.unusedVariables false
-- Need
def needC (x : Int × Int) : List Value := [.int .i64 x.1, .int .i64 x.2]
theorem needC_len (x : Int × Int) : (needC x).length = 2 := rfl
def needM (x : Int × Int) (k : Nat) : (Int × Int) × Nat := ((((k + 0 : Nat) : Int), ((k + 1 : Nat) : Int)), k + 2)
abbrev rNeed : Rep (Int × Int) := flatRep needC 2 needC_len needM
theorem need_val (x : Int × Int) : rNeed.val (needC x) = .agg #[.int .i64 x.1, .int .i64 x.2] := nofl rfl
theorem marB_Need : MarB rNeed := fun x k => by show k + 2 ≤ _; omega
-- Route
def rRoute : Rep ((List (Int × Int)) × (List Int)) := rPair (rSlc rNeed) (rSlc rInt)
theorem route_rd {H : Heap} {cs : List Value} {x0 : List (Int × Int)} {x1 : List Int} (h : rRoute.rd H cs (x0, x1)) : ∃ v0 v1, cs = [v0, v1] ∧ (rSlc rNeed).rd H [v0] x0 ∧ (rSlc rInt).rd H [v1] x1 := by
  obtain ⟨c0, d0, rfl, h0, h1⟩ := h
  obtain ⟨v0, rfl⟩ := slc_one h0
  obtain ⟨v1, rfl⟩ := slc_one h1
  exact ⟨v0, v1, rfl, h0, h1⟩
theorem route_rd' {H : Heap} {v0 v1 : Value} {x0 : List (Int × Int)} {x1 : List Int} (h0 : (rSlc rNeed).rd H [v0] x0) (h1 : (rSlc rInt).rd H [v1] x1) : rRoute.rd H [v0, v1] (x0, x1) := ⟨[v0], _, rfl, h0, h1⟩
theorem route_own {H : Heap} {cs : List Value} {x0 : List (Int × Int)} {x1 : List Int} {F : List Nat} (h : rRoute.own H cs (x0, x1) F) : ∃ v0 v1 F0 F1, cs = [v0, v1] ∧ (rSlc rNeed).own H [v0] x0 F0 ∧ (rSlc rInt).own H [v1] x1 F1 ∧ F = F0 ++ F1 := by
  obtain ⟨c0, d0, E0, G0, rfl, h0, h1, rfl⟩ := h
  obtain ⟨v0, rfl⟩ := slc_one ((rSlc rNeed).ownrd h0)
  obtain ⟨v1, rfl⟩ := slc_one ((rSlc rInt).ownrd h1)
  exact ⟨v0, v1, E0, G0, rfl, h0, h1, by simp⟩
theorem route_own' {H : Heap} {v0 v1 : Value} {x0 : List (Int × Int)} {x1 : List Int} {F0 F1 : List Nat} (h0 : (rSlc rNeed).own H [v0] x0 F0) (h1 : (rSlc rInt).own H [v1] x1 F1) : rRoute.own H [v0, v1] (x0, x1) (F0 ++ F1) := by
  exact ⟨[v0], _, F0, _, rfl, h0, h1, rfl⟩
theorem route_val {v0 v1 : Value}  : rRoute.val [v0, v1] = .agg #[v0, v1] := nofl rfl
theorem route_tot {x0 : List (Int × Int)} {x1 : List Int} : rRoute.tot (x0, x1) = (rSlc rNeed).tot x0 + (rSlc rInt).tot x1 := by
  show (rSlc rNeed).tot x0 + (rSlc rInt).tot x1 = _
  omega
theorem marB_Route : MarB rRoute := MarB.of (MarC.pair (MarC.slc marB_Need) (MarC.slc MarB.int)) (by omega)
-- Plant
def rPlant : Rep ((List Int) × Int × (List ((List (Int × Int)) × (List Int)))) := rPair (rSlc rInt) (rPair rInt (rSlc rRoute))
theorem plant_rd {H : Heap} {cs : List Value} {x0 : List Int} {x1 : Int} {x2 : List ((List (Int × Int)) × (List Int))} (h : rPlant.rd H cs (x0, x1, x2)) : ∃ v0 v2, cs = [v0, .int .i64 x1, v2] ∧ (rSlc rInt).rd H [v0] x0 ∧ (rSlc rRoute).rd H [v2] x2 := by
  obtain ⟨c0, d0, rfl, h0, c1, d1, rfl, h1, h2⟩ := h
  obtain ⟨v0, rfl⟩ := slc_one h0
  have e1 : c1 = [.int .i64 x1] := h1
  subst e1
  obtain ⟨v2, rfl⟩ := slc_one h2
  exact ⟨v0, v2, rfl, h0, h2⟩
theorem plant_rd' {H : Heap} {v0 v2 : Value} {x0 : List Int} {x1 : Int} {x2 : List ((List (Int × Int)) × (List Int))} (h0 : (rSlc rInt).rd H [v0] x0) (h2 : (rSlc rRoute).rd H [v2] x2) : rPlant.rd H [v0, .int .i64 x1, v2] (x0, x1, x2) := ⟨[v0], _, rfl, h0, ⟨[.int .i64 x1], _, rfl, rfl, h2⟩⟩
theorem plant_own {H : Heap} {cs : List Value} {x0 : List Int} {x1 : Int} {x2 : List ((List (Int × Int)) × (List Int))} {F : List Nat} (h : rPlant.own H cs (x0, x1, x2) F) : ∃ v0 v2 F0 F2, cs = [v0, .int .i64 x1, v2] ∧ (rSlc rInt).own H [v0] x0 F0 ∧ (rSlc rRoute).own H [v2] x2 F2 ∧ F = F0 ++ F2 := by
  obtain ⟨c0, d0, E0, G0, rfl, h0, ⟨c1, d1, E1, G1, rfl, h1, h2, rfl⟩, rfl⟩ := h
  obtain ⟨v0, rfl⟩ := slc_one ((rSlc rInt).ownrd h0)
  obtain ⟨e1, f1⟩ : c1 = [.int .i64 x1] ∧ E1 = [] := h1
  subst e1 f1
  obtain ⟨v2, rfl⟩ := slc_one ((rSlc rRoute).ownrd h2)
  exact ⟨v0, v2, E0, G1, rfl, h0, h2, by simp⟩
theorem plant_own' {H : Heap} {v0 v2 : Value} {x0 : List Int} {x1 : Int} {x2 : List ((List (Int × Int)) × (List Int))} {F0 F2 : List Nat} (h0 : (rSlc rInt).own H [v0] x0 F0) (h2 : (rSlc rRoute).own H [v2] x2 F2) : rPlant.own H [v0, .int .i64 x1, v2] (x0, x1, x2) (F0 ++ F2) := by
  have e : F0 ++ F2 = F0 ++ (([] : List Nat) ++ F2) := by simp
  rw [e]
  exact ⟨[v0], _, F0, _, rfl, h0, ⟨[.int .i64 x1], _, [], _, rfl, ⟨rfl, rfl⟩, h2, rfl⟩, rfl⟩
theorem plant_val {v0 v2 : Value} {x1 : Int} : rPlant.val [v0, .int .i64 x1, v2] = .agg #[v0, .int .i64 x1, v2] := nofl rfl
theorem plant_tot {x0 : List Int} {x1 : Int} {x2 : List ((List (Int × Int)) × (List Int))} : rPlant.tot (x0, x1, x2) = (rSlc rInt).tot x0 + (rSlc rRoute).tot x2 := by
  show (rSlc rInt).tot x0 + (0 + (rSlc rRoute).tot x2) = _
  omega
theorem marB_Plant : MarB rPlant := MarB.of (MarC.pair (MarC.slc MarB.int) (MarC.pair (MarC.leaf (f := .int .i64) (m := fun k => (k : Int)) (hf := oneCell_int)) (MarC.slc marB_Route))) (by omega)
theorem szIntS_is : IsSz Try.prog (rSlc rInt) 55 := szPlain_is c55
theorem szNeedS_is : IsSz Try.prog (rSlc rNeed) 92 := szFlat_is c92 (fun _ => rfl)
theorem szRoute_is : IsSz Try.prog rRoute 85 := by
  rintro H cs ⟨x0, x1⟩ q hrd hfit hq
  obtain ⟨f0, f1⟩ := hfit
  obtain ⟨v0, v1, rfl, h0, h1⟩ := route_rd hrd
  rw [route_tot]
  refine Run.intro c85 rfl ?_
  simp only [route_val]
  simp (maxSteps := 4000000) (disch := omega) only [Zq, evO, vbox, wr, Zeq, if_true, if_false, Nat.reduceEqDiff, Nat.reduceAdd, Nat.reduceLeDiff, Nat.reduceSub, and_self, and_true, true_and, reduceIte, reduceCtorEq, eq_self, implies_true, forall_const, false_implies, imp_self, decide_true, decide_false, x85]
  refine GO_call ((szNeedS_is _ [v0] x0 q ((rSlc rNeed).rdk h0 (Keep.push _ _)) f0 (by omega)).mono ?_)
  rintro w H1 ⟨k1, hw⟩
  have n1 := k1.nxt
  have g1 := k1.get H.nxt (by simp only [Zbg]; omega)
  simp (maxSteps := 4000000) (disch := omega) only [Zq, evO, vbox, wr, Zeq, if_true, if_false, Nat.reduceEqDiff, Nat.reduceAdd, Nat.reduceLeDiff, Nat.reduceSub, and_self, and_true, true_and, reduceIte, reduceCtorEq, eq_self, implies_true, forall_const, false_implies, imp_self, decide_true, decide_false] at n1 g1
  have K1 : Keep H H1 := Keep.trans (Keep.push _ _) k1
  rcases hw with rfl | ⟨q1, rfl, hq1⟩
  · simp (maxSteps := 4000000) (disch := omega) only [Zq, evO, vbox, wr, Zeq, if_true, if_false, Nat.reduceEqDiff, Nat.reduceAdd, Nat.reduceLeDiff, Nat.reduceSub, and_self, and_true, true_and, reduceIte, reduceCtorEq, eq_self, implies_true, forall_const, false_implies, imp_self, decide_true, decide_false, g1]
    exact ⟨K1, by simp⟩
  simp (maxSteps := 4000000) (disch := omega) only [Zq, evO, vbox, wr, Zeq, if_true, if_false, Nat.reduceEqDiff, Nat.reduceAdd, Nat.reduceLeDiff, Nat.reduceSub, and_self, and_true, true_and, reduceIte, reduceCtorEq, eq_self, implies_true, forall_const, false_implies, imp_self, decide_true, decide_false, g1]
  refine GO_call ((szIntS_is _ [v1] x1 q1 ((rSlc rInt).rdk h1 K1) f1 (by omega)).mono ?_)
  rintro w H2 ⟨k2, hw⟩
  have n2 := k2.nxt
  have g2 := (k2.get H.nxt (by omega)).trans g1
  have K2 : Keep H H2 := Keep.trans K1 k2
  rcases hw with rfl | ⟨q2, rfl, hq2⟩
  · simp (maxSteps := 4000000) (disch := omega) only [Zq, evO, vbox, wr, Zeq, if_true, if_false, Nat.reduceEqDiff, Nat.reduceAdd, Nat.reduceLeDiff, Nat.reduceSub, and_self, and_true, true_and, reduceIte, reduceCtorEq, eq_self, implies_true, forall_const, false_implies, imp_self, decide_true, decide_false, g2]
    exact ⟨K2, by simp⟩
  simp (maxSteps := 4000000) (disch := omega) only [Zq, evO, vbox, wr, Zeq, if_true, if_false, Nat.reduceEqDiff, Nat.reduceAdd, Nat.reduceLeDiff, Nat.reduceSub, and_self, and_true, true_and, reduceIte, reduceCtorEq, eq_self, implies_true, forall_const, false_implies, imp_self, decide_true, decide_false, g2]
  exact ⟨K2, .inr ⟨q2, rfl, by omega⟩⟩
theorem elemRoute : Elem rRoute true 2 := ⟨rfl, by omega, fun _ _ => rfl, fun h => by cases h⟩
theorem szRouteS_is : IsSz Try.prog (rSlc rRoute) 56 := szCall_is (agg := true) (sz := 2) c56 elemRoute szRoute_is
theorem szPlant_is : IsSz Try.prog rPlant 24 := by
  rintro H cs ⟨x0, x1, x2⟩ q hrd hfit hq
  obtain ⟨f0, f1, f2⟩ := hfit
  obtain ⟨v0, v2, rfl, h0, h2⟩ := plant_rd hrd
  rw [plant_tot]
  refine Run.intro c24 rfl ?_
  simp only [plant_val]
  simp (maxSteps := 4000000) (disch := omega) only [Zq, evO, vbox, wr, Zeq, if_true, if_false, Nat.reduceEqDiff, Nat.reduceAdd, Nat.reduceLeDiff, Nat.reduceSub, and_self, and_true, true_and, reduceIte, reduceCtorEq, eq_self, implies_true, forall_const, false_implies, imp_self, decide_true, decide_false, x24]
  refine GO_call ((szIntS_is _ [v0] x0 q ((rSlc rInt).rdk h0 (Keep.push _ _)) f0 (by omega)).mono ?_)
  rintro w H1 ⟨k1, hw⟩
  have n1 := k1.nxt
  have g1 := k1.get H.nxt (by simp only [Zbg]; omega)
  simp (maxSteps := 4000000) (disch := omega) only [Zq, evO, vbox, wr, Zeq, if_true, if_false, Nat.reduceEqDiff, Nat.reduceAdd, Nat.reduceLeDiff, Nat.reduceSub, and_self, and_true, true_and, reduceIte, reduceCtorEq, eq_self, implies_true, forall_const, false_implies, imp_self, decide_true, decide_false] at n1 g1
  have K1 : Keep H H1 := Keep.trans (Keep.push _ _) k1
  rcases hw with rfl | ⟨q1, rfl, hq1⟩
  · simp (maxSteps := 4000000) (disch := omega) only [Zq, evO, vbox, wr, Zeq, if_true, if_false, Nat.reduceEqDiff, Nat.reduceAdd, Nat.reduceLeDiff, Nat.reduceSub, and_self, and_true, true_and, reduceIte, reduceCtorEq, eq_self, implies_true, forall_const, false_implies, imp_self, decide_true, decide_false, g1]
    exact ⟨K1, by simp⟩
  simp (maxSteps := 4000000) (disch := omega) only [Zq, evO, vbox, wr, Zeq, if_true, if_false, Nat.reduceEqDiff, Nat.reduceAdd, Nat.reduceLeDiff, Nat.reduceSub, and_self, and_true, true_and, reduceIte, reduceCtorEq, eq_self, implies_true, forall_const, false_implies, imp_self, decide_true, decide_false, g1]
  refine GO_call ((szRouteS_is _ [v2] x2 q1 ((rSlc rRoute).rdk h2 K1) f2 (by omega)).mono ?_)
  rintro w H2 ⟨k2, hw⟩
  have n2 := k2.nxt
  have g2 := (k2.get H.nxt (by omega)).trans g1
  have K2 : Keep H H2 := Keep.trans K1 k2
  rcases hw with rfl | ⟨q2, rfl, hq2⟩
  · simp (maxSteps := 4000000) (disch := omega) only [Zq, evO, vbox, wr, Zeq, if_true, if_false, Nat.reduceEqDiff, Nat.reduceAdd, Nat.reduceLeDiff, Nat.reduceSub, and_self, and_true, true_and, reduceIte, reduceCtorEq, eq_self, implies_true, forall_const, false_implies, imp_self, decide_true, decide_false, g2]
    exact ⟨K2, by simp⟩
  simp (maxSteps := 4000000) (disch := omega) only [Zq, evO, vbox, wr, Zeq, if_true, if_false, Nat.reduceEqDiff, Nat.reduceAdd, Nat.reduceLeDiff, Nat.reduceSub, and_self, and_true, true_and, reduceIte, reduceCtorEq, eq_self, implies_true, forall_const, false_implies, imp_self, decide_true, decide_false, g2]
  exact ⟨K2, .inr ⟨q2, rfl, by omega⟩⟩
theorem toIntS_is : IsTo Try.prog (rSlc rInt) 61 := toPlain_is c61 (by omega)
theorem toNeed_is : IsTo Try.prog rNeed 95 := by
  intro H cs a hrd _
  have e : cs = needC a := hrd
  subst e
  refine Run.intro c95 rfl ?_
  simp only [need_val]
  simp (maxSteps := 4000000) (disch := omega) only [Zq, evO, vbox, wr, Zeq, if_true, if_false, Nat.reduceEqDiff, Nat.reduceAdd, Nat.reduceLeDiff, Nat.reduceSub, and_self, and_true, true_and, reduceIte, reduceCtorEq, eq_self, implies_true, forall_const, false_implies, imp_self, decide_true, decide_false, x95]
  exact ⟨by repeat' (first | exact Keep.refl _ | assumption | refine Keep.push' ?_ | refine Keep.set' ?_ ?_ | refine Keep.moved' ?_ ?_ | omega), needC a, [], rfl, ⟨rfl, rfl⟩, List.nodup_nil, fun i hi => by cases hi⟩
theorem elemNeed : Elem rNeed true 2 := ⟨rfl, by omega, fun _ _ => rfl, fun h => by cases h⟩
theorem toNeedS_is : IsTo Try.prog (rSlc rNeed) 93 := toCall_is (agg := true) (sz := 2) (bytes := 16) (zs := [.int .i64 0, .int .i64 0]) c93 (by omega) rfl elemNeed toNeed_is
theorem toRoute_is : IsTo Try.prog rRoute 87 := by
  rintro H cs ⟨x0, x1⟩ hrd htot
  obtain ⟨v0, v1, rfl, h0, h1⟩ := route_rd hrd
  rw [route_tot] at htot
  refine Run.intro c87 rfl ?_
  simp only [route_val]
  simp (maxSteps := 4000000) (disch := omega) only [Zq, evO, vbox, wr, Zeq, if_true, if_false, Nat.reduceEqDiff, Nat.reduceAdd, Nat.reduceLeDiff, Nat.reduceSub, and_self, and_true, true_and, reduceIte, reduceCtorEq, eq_self, implies_true, forall_const, false_implies, imp_self, decide_true, decide_false, x87]
  have K0 : Keep H H := Keep.refl H
  refine GO_call ((toNeedS_is _ [v0] x0 ((rSlc rNeed).rdk h0 (by repeat' (first | exact Keep.refl _ | assumption | refine Keep.push' ?_ | refine Keep.set' ?_ ?_ | refine Keep.moved' ?_ ?_ | omega))) (by omega)).mono ?_)
  rintro _ H1 ⟨k1, _, F0, rfl, o0, f0⟩
  obtain ⟨y0, rfl⟩ := slc_one ((rSlc rNeed).ownrd o0)
  obtain ⟨y0a, y0b⟩ := slc_cell ((rSlc rNeed).ownrd o0)
  have n1 := k1.nxt
  have gA1 := k1.get H.nxt (by simp only [Zbg, Zbh]; omega)
  have gB1 := k1.get (H.nxt + 1) (by simp only [Zbg, Zbh]; omega)
  have gC1 := k1.get (H.nxt + 2) (by simp only [Zbg, Zbh]; omega)
  have K1 : Keep H H1 := Keep.trans (by repeat' (first | exact Keep.refl _ | assumption | refine Keep.push' ?_ | refine Keep.set' ?_ ?_ | refine Keep.moved' ?_ ?_ | omega)) k1
  simp (maxSteps := 4000000) (disch := omega) only [Zq, evO, vbox, wr, Zeq, if_true, if_false, Nat.reduceEqDiff, Nat.reduceAdd, Nat.reduceLeDiff, Nat.reduceSub, and_self, and_true, true_and, reduceIte, reduceCtorEq, eq_self, implies_true, forall_const, false_implies, imp_self, decide_true, decide_false] at n1 gA1 gB1 gC1
  have f02 := f0.2
  simp only [Zbg, Zbh] at f02
  simp only [slc_val]
  simp (maxSteps := 4000000) (disch := omega) only [Zq, evO, vbox, wr, Zeq, if_true, if_false, Nat.reduceEqDiff, Nat.reduceAdd, Nat.reduceLeDiff, Nat.reduceSub, and_self, and_true, true_and, reduceIte, reduceCtorEq, eq_self, implies_true, forall_const, false_implies, imp_self, decide_true, decide_false, gA1, gB1, gC1, y0a, y0b]
  refine GO_call ((toIntS_is _ [v1] x1 ((rSlc rInt).rdk h1 (by repeat' (first | exact Keep.refl _ | assumption | refine Keep.push' ?_ | refine Keep.set' ?_ ?_ | refine Keep.moved' ?_ ?_ | omega))) (by omega)).mono ?_)
  rintro _ H2 ⟨k2, _, F1, rfl, o1, f1⟩
  obtain ⟨y1, rfl⟩ := slc_one ((rSlc rInt).ownrd o1)
  obtain ⟨y1a, y1b⟩ := slc_cell ((rSlc rInt).ownrd o1)
  have n2 := k2.nxt
  have gA2 := k2.get H.nxt (by simp only [Zbg, Zbh]; omega)
  have gB2 := k2.get (H.nxt + 1) (by simp only [Zbg, Zbh]; omega)
  have gC2 := k2.get (H.nxt + 2) (by simp only [Zbg, Zbh]; omega)
  have K2 : Keep H H2 := Keep.trans (by repeat' (first | exact Keep.refl _ | assumption | refine Keep.push' ?_ | refine Keep.set' ?_ ?_ | refine Keep.moved' ?_ ?_ | omega)) k2
  have C2_0 : Chg [H.nxt + 1, H.nxt + 2] H1 H2 := by
    refine Chg.trans ?_ k2.chg
    repeat' (first | exact Chg.refl _ _ | refine Chg.trans ?_ (Chg.set (by simp)))
  have o0 := (rSlc rNeed).ownChg o0 C2_0 (fun a ha => by have := f02 a ha; simp only [List.mem_cons, List.not_mem_nil, or_false, not_or]; omega)
  simp (maxSteps := 4000000) (disch := omega) only [Zq, evO, vbox, wr, Zeq, if_true, if_false, Nat.reduceEqDiff, Nat.reduceAdd, Nat.reduceLeDiff, Nat.reduceSub, and_self, and_true, true_and, reduceIte, reduceCtorEq, eq_self, implies_true, forall_const, false_implies, imp_self, decide_true, decide_false, gA1, gB1, gC1, y0a, y0b] at n2 gA2 gB2 gC2
  have f12 := f1.2
  simp only [Zbg, Zbh] at f12
  simp only [slc_val]
  simp (maxSteps := 4000000) (disch := omega) only [Zq, evO, vbox, wr, Zeq, if_true, if_false, Nat.reduceEqDiff, Nat.reduceAdd, Nat.reduceLeDiff, Nat.reduceSub, and_self, and_true, true_and, reduceIte, reduceCtorEq, eq_self, implies_true, forall_const, false_implies, imp_self, decide_true, decide_false, gA2, gB2, gC2, y0a, y0b, y1a, y1b]
  refine ⟨by repeat' (first | exact Keep.refl _ | assumption | refine Keep.push' ?_ | refine Keep.set' ?_ ?_ | refine Keep.moved' ?_ ?_ | omega), [y0, y1], F0 ++ F1, rfl, route_own' ((rSlc rNeed).ownChg (G := [H.nxt + 1, H.nxt + 2]) o0 (by repeat' (first | exact Chg.refl _ _ | refine Chg.trans ?_ (Chg.set (by simp)))) (fun a ha => by have := f02 a ha; simp only [List.mem_cons, List.not_mem_nil, or_false, not_or]; omega)) ((rSlc rInt).ownChg (G := [H.nxt + 1, H.nxt + 2]) o1 (by repeat' (first | exact Chg.refl _ _ | refine Chg.trans ?_ (Chg.set (by simp)))) (fun a ha => by have := f12 a ha; simp only [List.mem_cons, List.not_mem_nil, or_false, not_or]; omega)), ?_, fun i hi => ?_⟩
  · skip
    refine List.nodup_append.2 ⟨f0.1, ?_, fun a ha b hb => ?_⟩
    · skip
      exact f1.1
    · have := f02 a ha
      have := f12 b hb
      omega
  · simp only [Zbh]
    simp only [List.mem_append] at hi
    rcases hi with hi | hi
    · have := f02 i hi; omega
    · have := f12 i hi; omega
theorem toRouteS_is : IsTo Try.prog (rSlc rRoute) 62 := toCall_is (agg := true) (sz := 2) (bytes := 48) (zs := [.slice none 0 0, .slice none 0 0]) c62 (by omega) rfl elemRoute toRoute_is
theorem toPlant_is : IsTo Try.prog rPlant 27 := by
  rintro H cs ⟨x0, x1, x2⟩ hrd htot
  obtain ⟨v0, v2, rfl, h0, h2⟩ := plant_rd hrd
  rw [plant_tot] at htot
  refine Run.intro c27 rfl ?_
  simp only [plant_val]
  simp (maxSteps := 4000000) (disch := omega) only [Zq, evO, vbox, wr, Zeq, if_true, if_false, Nat.reduceEqDiff, Nat.reduceAdd, Nat.reduceLeDiff, Nat.reduceSub, and_self, and_true, true_and, reduceIte, reduceCtorEq, eq_self, implies_true, forall_const, false_implies, imp_self, decide_true, decide_false, x27]
  have K0 : Keep H H := Keep.refl H
  refine GO_call ((toIntS_is _ [v0] x0 ((rSlc rInt).rdk h0 (by repeat' (first | exact Keep.refl _ | assumption | refine Keep.push' ?_ | refine Keep.set' ?_ ?_ | refine Keep.moved' ?_ ?_ | omega))) (by omega)).mono ?_)
  rintro _ H1 ⟨k1, _, F0, rfl, o0, f0⟩
  obtain ⟨y0, rfl⟩ := slc_one ((rSlc rInt).ownrd o0)
  obtain ⟨y0a, y0b⟩ := slc_cell ((rSlc rInt).ownrd o0)
  have n1 := k1.nxt
  have gA1 := k1.get H.nxt (by simp only [Zbg, Zbh]; omega)
  have gB1 := k1.get (H.nxt + 1) (by simp only [Zbg, Zbh]; omega)
  have gC1 := k1.get (H.nxt + 2) (by simp only [Zbg, Zbh]; omega)
  have K1 : Keep H H1 := Keep.trans (by repeat' (first | exact Keep.refl _ | assumption | refine Keep.push' ?_ | refine Keep.set' ?_ ?_ | refine Keep.moved' ?_ ?_ | omega)) k1
  simp (maxSteps := 4000000) (disch := omega) only [Zq, evO, vbox, wr, Zeq, if_true, if_false, Nat.reduceEqDiff, Nat.reduceAdd, Nat.reduceLeDiff, Nat.reduceSub, and_self, and_true, true_and, reduceIte, reduceCtorEq, eq_self, implies_true, forall_const, false_implies, imp_self, decide_true, decide_false] at n1 gA1 gB1 gC1
  have f02 := f0.2
  simp only [Zbg, Zbh] at f02
  simp only [slc_val]
  simp (maxSteps := 4000000) (disch := omega) only [Zq, evO, vbox, wr, Zeq, if_true, if_false, Nat.reduceEqDiff, Nat.reduceAdd, Nat.reduceLeDiff, Nat.reduceSub, and_self, and_true, true_and, reduceIte, reduceCtorEq, eq_self, implies_true, forall_const, false_implies, imp_self, decide_true, decide_false, gA1, gB1, gC1, y0a, y0b]
  refine GO_call ((toRouteS_is _ [v2] x2 ((rSlc rRoute).rdk h2 (by repeat' (first | exact Keep.refl _ | assumption | refine Keep.push' ?_ | refine Keep.set' ?_ ?_ | refine Keep.moved' ?_ ?_ | omega))) (by omega)).mono ?_)
  rintro _ H2 ⟨k2, _, F2, rfl, o2, f2⟩
  obtain ⟨y2, rfl⟩ := slc_one ((rSlc rRoute).ownrd o2)
  obtain ⟨y2a, y2b⟩ := slc_cell ((rSlc rRoute).ownrd o2)
  have n2 := k2.nxt
  have gA2 := k2.get H.nxt (by simp only [Zbg, Zbh]; omega)
  have gB2 := k2.get (H.nxt + 1) (by simp only [Zbg, Zbh]; omega)
  have gC2 := k2.get (H.nxt + 2) (by simp only [Zbg, Zbh]; omega)
  have K2 : Keep H H2 := Keep.trans (by repeat' (first | exact Keep.refl _ | assumption | refine Keep.push' ?_ | refine Keep.set' ?_ ?_ | refine Keep.moved' ?_ ?_ | omega)) k2
  have C2_0 : Chg [H.nxt + 1, H.nxt + 2] H1 H2 := by
    refine Chg.trans ?_ k2.chg
    repeat' (first | exact Chg.refl _ _ | refine Chg.trans ?_ (Chg.set (by simp)))
  have o0 := (rSlc rInt).ownChg o0 C2_0 (fun a ha => by have := f02 a ha; simp only [List.mem_cons, List.not_mem_nil, or_false, not_or]; omega)
  simp (maxSteps := 4000000) (disch := omega) only [Zq, evO, vbox, wr, Zeq, if_true, if_false, Nat.reduceEqDiff, Nat.reduceAdd, Nat.reduceLeDiff, Nat.reduceSub, and_self, and_true, true_and, reduceIte, reduceCtorEq, eq_self, implies_true, forall_const, false_implies, imp_self, decide_true, decide_false, gA1, gB1, gC1, y0a, y0b] at n2 gA2 gB2 gC2
  have f22 := f2.2
  simp only [Zbg, Zbh] at f22
  simp only [slc_val]
  simp (maxSteps := 4000000) (disch := omega) only [Zq, evO, vbox, wr, Zeq, if_true, if_false, Nat.reduceEqDiff, Nat.reduceAdd, Nat.reduceLeDiff, Nat.reduceSub, and_self, and_true, true_and, reduceIte, reduceCtorEq, eq_self, implies_true, forall_const, false_implies, imp_self, decide_true, decide_false, gA2, gB2, gC2, y0a, y0b, y2a, y2b]
  refine ⟨by repeat' (first | exact Keep.refl _ | assumption | refine Keep.push' ?_ | refine Keep.set' ?_ ?_ | refine Keep.moved' ?_ ?_ | omega), [y0, .int .i64 x1, y2], F0 ++ F2, rfl, plant_own' ((rSlc rInt).ownChg (G := [H.nxt + 1, H.nxt + 2]) o0 (by repeat' (first | exact Chg.refl _ _ | refine Chg.trans ?_ (Chg.set (by simp)))) (fun a ha => by have := f02 a ha; simp only [List.mem_cons, List.not_mem_nil, or_false, not_or]; omega)) ((rSlc rRoute).ownChg (G := [H.nxt + 1, H.nxt + 2]) o2 (by repeat' (first | exact Chg.refl _ _ | refine Chg.trans ?_ (Chg.set (by simp)))) (fun a ha => by have := f22 a ha; simp only [List.mem_cons, List.not_mem_nil, or_false, not_or]; omega)), ?_, fun i hi => ?_⟩
  · skip
    refine List.nodup_append.2 ⟨f0.1, ?_, fun a ha b hb => ?_⟩
    · skip
      exact f2.1
    · have := f02 a ha
      have := f22 b hb
      omega
  · simp only [Zbh]
    simp only [List.mem_append] at hi
    rcases hi with hi | hi
    · have := f02 i hi; omega
    · have := f22 i hi; omega
theorem eqIntS_is : IsEq Try.prog (rSlc rInt) 39 := eqPlain_is c39 (fun z => by rw [Zdv]; simp)
theorem eqNeed_is : IsEq Try.prog rNeed 96 := by
  intro H cs ds a hrd hrd2 _
  have e : cs = needC a := hrd
  have e2 : ds = needC a := hrd2
  subst e e2
  refine Run.intro c96 rfl ?_
  simp only [need_val]
  simp (maxSteps := 4000000) (disch := omega) only [Zq, evO, vbox, wr, Zeq, if_true, if_false, Nat.reduceEqDiff, Nat.reduceAdd, Nat.reduceLeDiff, Nat.reduceSub, and_self, and_true, true_and, reduceIte, reduceCtorEq, eq_self, implies_true, forall_const, false_implies, imp_self, decide_true, decide_false, x96, vbinB_ne]
  try repeat' (first | exact Keep.refl _ | assumption | refine Keep.push' ?_ | refine Keep.set' ?_ ?_ | refine Keep.moved' ?_ ?_ | omega)
theorem eqNeedS_is : IsEq Try.prog (rSlc rNeed) 94 := eqCall_is (agg := true) (sz := 2) c94 elemNeed eqNeed_is
theorem eqRoute_is : IsEq Try.prog rRoute 88 := by
  rintro H cs ds ⟨x0, x1⟩ hrd hrd2 htot
  obtain ⟨v0, v1, rfl, h0, h1⟩ := route_rd hrd
  obtain ⟨u0, u1, rfl, l0, l1⟩ := route_rd hrd2
  rw [route_tot] at htot
  refine Run.intro c88 rfl ?_
  simp only [route_val]
  simp (maxSteps := 4000000) (disch := omega) only [Zq, evO, vbox, wr, Zeq, if_true, if_false, Nat.reduceEqDiff, Nat.reduceAdd, Nat.reduceLeDiff, Nat.reduceSub, and_self, and_true, true_and, reduceIte, reduceCtorEq, eq_self, implies_true, forall_const, false_implies, imp_self, decide_true, decide_false, x88, vbinB_ne]
  refine GO_call ((eqNeedS_is _ [v0] [u0] x0 ((rSlc rNeed).rdk h0 (by repeat' (first | exact Keep.refl _ | assumption | refine Keep.push' ?_ | refine Keep.set' ?_ ?_ | refine Keep.moved' ?_ ?_ | omega))) ((rSlc rNeed).rdk l0 (by repeat' (first | exact Keep.refl _ | assumption | refine Keep.push' ?_ | refine Keep.set' ?_ ?_ | refine Keep.moved' ?_ ?_ | omega))) (by omega)).mono ?_)
  rintro _ H1 ⟨k1, rfl⟩
  have n1 := k1.nxt
  have gA1 := k1.get H.nxt (by simp only [Zbg]; omega)
  have gB1 := k1.get (H.nxt + 1) (by simp only [Zbg]; omega)
  simp (maxSteps := 4000000) (disch := omega) only [Zq, evO, vbox, wr, Zeq, if_true, if_false, Nat.reduceEqDiff, Nat.reduceAdd, Nat.reduceLeDiff, Nat.reduceSub, and_self, and_true, true_and, reduceIte, reduceCtorEq, eq_self, implies_true, forall_const, false_implies, imp_self, decide_true, decide_false] at n1 gA1 gB1
  have K1 : Keep H H1 := Keep.trans (by repeat' (first | exact Keep.refl _ | assumption | refine Keep.push' ?_ | refine Keep.set' ?_ ?_ | refine Keep.moved' ?_ ?_ | omega)) k1
  simp (maxSteps := 4000000) (disch := omega) only [Zq, evO, vbox, wr, Zeq, if_true, if_false, Nat.reduceEqDiff, Nat.reduceAdd, Nat.reduceLeDiff, Nat.reduceSub, and_self, and_true, true_and, reduceIte, reduceCtorEq, eq_self, implies_true, forall_const, false_implies, imp_self, decide_true, decide_false, vbinB_ne, gA1, gB1]
  refine GO_call ((eqIntS_is _ [v1] [u1] x1 ((rSlc rInt).rdk h1 K1) ((rSlc rInt).rdk l1 K1) (by omega)).mono ?_)
  rintro _ H2 ⟨k2, rfl⟩
  have K2 : Keep H H2 := Keep.trans K1 k2
  simp (maxSteps := 4000000) (disch := omega) only [Zq, evO, vbox, wr, Zeq, if_true, if_false, Nat.reduceEqDiff, Nat.reduceAdd, Nat.reduceLeDiff, Nat.reduceSub, and_self, and_true, true_and, reduceIte, reduceCtorEq, eq_self, implies_true, forall_const, false_implies, imp_self, decide_true, decide_false, vbinB_ne, gA1, gB1]
  try exact K2
theorem eqRouteS_is : IsEq Try.prog (rSlc rRoute) 65 := eqCall_is (agg := true) (sz := 2) c65 elemRoute eqRoute_is
theorem eqPlant_is : IsEq Try.prog rPlant 30 := by
  rintro H cs ds ⟨x0, x1, x2⟩ hrd hrd2 htot
  obtain ⟨v0, v2, rfl, h0, h2⟩ := plant_rd hrd
  obtain ⟨u0, u2, rfl, l0, l2⟩ := plant_rd hrd2
  rw [plant_tot] at htot
  refine Run.intro c30 rfl ?_
  simp only [plant_val]
  simp (maxSteps := 4000000) (disch := omega) only [Zq, evO, vbox, wr, Zeq, if_true, if_false, Nat.reduceEqDiff, Nat.reduceAdd, Nat.reduceLeDiff, Nat.reduceSub, and_self, and_true, true_and, reduceIte, reduceCtorEq, eq_self, implies_true, forall_const, false_implies, imp_self, decide_true, decide_false, x30, vbinB_ne]
  refine GO_call ((eqIntS_is _ [v0] [u0] x0 ((rSlc rInt).rdk h0 (by repeat' (first | exact Keep.refl _ | assumption | refine Keep.push' ?_ | refine Keep.set' ?_ ?_ | refine Keep.moved' ?_ ?_ | omega))) ((rSlc rInt).rdk l0 (by repeat' (first | exact Keep.refl _ | assumption | refine Keep.push' ?_ | refine Keep.set' ?_ ?_ | refine Keep.moved' ?_ ?_ | omega))) (by omega)).mono ?_)
  rintro _ H1 ⟨k1, rfl⟩
  have n1 := k1.nxt
  have gA1 := k1.get H.nxt (by simp only [Zbg]; omega)
  have gB1 := k1.get (H.nxt + 1) (by simp only [Zbg]; omega)
  simp (maxSteps := 4000000) (disch := omega) only [Zq, evO, vbox, wr, Zeq, if_true, if_false, Nat.reduceEqDiff, Nat.reduceAdd, Nat.reduceLeDiff, Nat.reduceSub, and_self, and_true, true_and, reduceIte, reduceCtorEq, eq_self, implies_true, forall_const, false_implies, imp_self, decide_true, decide_false] at n1 gA1 gB1
  have K1 : Keep H H1 := Keep.trans (by repeat' (first | exact Keep.refl _ | assumption | refine Keep.push' ?_ | refine Keep.set' ?_ ?_ | refine Keep.moved' ?_ ?_ | omega)) k1
  simp (maxSteps := 4000000) (disch := omega) only [Zq, evO, vbox, wr, Zeq, if_true, if_false, Nat.reduceEqDiff, Nat.reduceAdd, Nat.reduceLeDiff, Nat.reduceSub, and_self, and_true, true_and, reduceIte, reduceCtorEq, eq_self, implies_true, forall_const, false_implies, imp_self, decide_true, decide_false, vbinB_ne, gA1, gB1]
  refine GO_call ((eqRouteS_is _ [v2] [u2] x2 ((rSlc rRoute).rdk h2 K1) ((rSlc rRoute).rdk l2 K1) (by omega)).mono ?_)
  rintro _ H2 ⟨k2, rfl⟩
  have K2 : Keep H H2 := Keep.trans K1 k2
  simp (maxSteps := 4000000) (disch := omega) only [Zq, evO, vbox, wr, Zeq, if_true, if_false, Nat.reduceEqDiff, Nat.reduceAdd, Nat.reduceLeDiff, Nat.reduceSub, and_self, and_true, true_and, reduceIte, reduceCtorEq, eq_self, implies_true, forall_const, false_implies, imp_self, decide_true, decide_false, vbinB_ne, gA1, gB1]
  try exact K2
theorem markIntS_is : IsMark Try.prog (rSlc rInt) (rSlc rInt).mar 42 := markMarkInt_is c42
def markNeedSB : X := (.seq (.reg [(.mk (.some 12) (.mov (.tmp 0)) none), (.mk (.some 13) (.mov (.tmp 5)) none), (.mk (.some 14) (.mov (.tmp 1)) none), (.mk (.some 15) (.idx 2 (.tmp 12) (.tmp 13)) none), (.mk (.some 16) (.fad 0 (.tmp 15)) none), (.mk none (.store 1 (.tmp 16) (.tmp 14)) none)]) (.seq (.reg [(.mk (.some 17) (.mov (.tmp 1)) none), (.mk (.some 18) (.bin (.add) (.tmp 17) (.const (.int (.i64) 1))) none), (.mk (.some 1) (.mov (.tmp 18)) none)]) (.seq (.reg [(.mk (.some 19) (.mov (.tmp 0)) none), (.mk (.some 20) (.mov (.tmp 5)) none), (.mk (.some 21) (.mov (.tmp 1)) none), (.mk (.some 22) (.idx 2 (.tmp 19) (.tmp 20)) none), (.mk (.some 23) (.fad 1 (.tmp 22)) none), (.mk none (.store 1 (.tmp 23) (.tmp 21)) none)]) (.reg [(.mk (.some 24) (.mov (.tmp 1)) none), (.mk (.some 25) (.bin (.add) (.tmp 24) (.const (.int (.i64) 1))) none), (.mk (.some 1) (.mov (.tmp 25)) none)]))))
theorem markNeedSB_is : BMark Try.prog rNeed markNeedSB := by
  rintro p i n o k P0 Q0 row ⟨x0, x1⟩ F ks Q T H t0 t1 t5 hi hP hp hg hown hnd hpF hk K
  have t0 : T 0 = .slice (some ⟨p, o, none⟩) n 2 := t0
  have hP : P0.length = o + i * 2 := hP
  obtain ⟨e0, e1⟩ : row = [.int .i64 x0, .int .i64 x1] ∧ F = [] := hown
  subst e0 e1
  have s0 : ∀ H1 : Heap, stO H1 1 p (o + i * 2) (.int .i64 ((k : Nat) : Int)) (some (.own (mid P0 [.int .i64 x0, .int .i64 x1] Q0))) = some (undef, H1.set p (mid P0 [.int .i64 ((k : Nat) : Int), .int .i64 x1] Q0)) := fun H1 => by exact stO_mid (B := [.int .i64 x0, .int .i64 x1]) (o := 0) rfl hP (by simp)
  have s1 : ∀ H1 : Heap, stO H1 1 p (o + (i * 2 + 1)) (.int .i64 (((k + 1) : Nat) : Int)) (some (.own (mid P0 [.int .i64 ((k : Nat) : Int), .int .i64 x1] Q0))) = some (undef, H1.set p (mid P0 [.int .i64 ((k : Nat) : Int), .int .i64 (((k + 1) : Nat) : Int)] Q0)) := fun H1 => by rw [← Nat.add_assoc]; exact stO_mid (B := [.int .i64 ((k : Nat) : Int), .int .i64 x1]) (o := 1) rfl hP (by simp)
  have C0 : Chg (p :: ([])) H H := Chg.refl _ _
  simp (maxSteps := 4000000) (disch := omega) only [Zq, evO, vbox, wr, Zeq, if_true, if_false, Nat.reduceEqDiff, Nat.reduceAdd, Nat.reduceLeDiff, Nat.reduceSub, and_self, and_true, true_and, reduceIte, reduceCtorEq, eq_self, implies_true, forall_const, false_implies, imp_self, decide_true, decide_false, markNeedSB, t0, t1, t5, Zfo hi, Zfo, s0, s1, hg]
  refine K _ _ [.int .i64 ((k : Nat) : Int), .int .i64 (((k + 1) : Nat) : Int)] ?_ ?_ ?_ ?_ ?_ ⟨rfl, rfl⟩
  · simp (maxSteps := 4000000) (disch := omega) only [Zq, evO, vbox, wr, Zeq, if_true, if_false, Nat.reduceEqDiff, Nat.reduceAdd, Nat.reduceLeDiff, Nat.reduceSub, and_self, and_true, true_and, reduceIte, reduceCtorEq, eq_self, implies_true, forall_const, false_implies, imp_self, decide_true, decide_false, t0]
  · simp (maxSteps := 4000000) (disch := omega) only [Zq, evO, vbox, wr, Zeq, if_true, if_false, Nat.reduceEqDiff, Nat.reduceAdd, Nat.reduceLeDiff, Nat.reduceSub, and_self, and_true, true_and, reduceIte, reduceCtorEq, eq_self, implies_true, forall_const, false_implies, imp_self, decide_true, decide_false, t5]
  · simp (maxSteps := 4000000) (disch := omega) only [Zq, evO, vbox, wr, Zeq, if_true, if_false, Nat.reduceEqDiff, Nat.reduceAdd, Nat.reduceLeDiff, Nat.reduceSub, and_self, and_true, true_and, reduceIte, reduceCtorEq, eq_self, implies_true, forall_const, false_implies, imp_self, decide_true, decide_false, t1]
    try rfl
  · repeat' (first | exact Chg.refl _ _ | refine Chg.trans ?_ (Chg.set (by simp)))
  · simp only [Zbi, if_true]
theorem markNeedS_is : IsMark Try.prog (rSlc rNeed) (rSlc rNeed).mar 89 := markSlc_is (A := 26) (body := markNeedSB) c89 marB_Need markNeedSB_is
def markRouteSB : X := (.seq (.reg [(.mk (.some 12) (.mov (.tmp 0)) none), (.mk (.some 13) (.mov (.tmp 5)) none), (.mk (.some 14) (.idx 2 (.tmp 12) (.tmp 13)) none), (.mk (.some 15) (.fad 0 (.tmp 14)) none), (.mk (.some 16) (.load1 (.tmp 15)) none), (.mk (.some 17) (.mov (.tmp 1)) none), (.mk (.some 18) (.call 89 [(.tmp 16), (.tmp 17)]) none), (.mk (.some 1) (.mov (.tmp 18)) none)]) (.reg [(.mk (.some 19) (.mov (.tmp 0)) none), (.mk (.some 20) (.mov (.tmp 5)) none), (.mk (.some 21) (.idx 2 (.tmp 19) (.tmp 20)) none), (.mk (.some 22) (.fad 1 (.tmp 21)) none), (.mk (.some 23) (.load1 (.tmp 22)) none), (.mk (.some 24) (.mov (.tmp 1)) none), (.mk (.some 25) (.call 42 [(.tmp 23), (.tmp 24)]) none), (.mk (.some 1) (.mov (.tmp 25)) none)]))
theorem markRouteSB_is : BMark Try.prog rRoute markRouteSB := by
  rintro p i n o k P0 Q0 row ⟨x0, x1⟩ F ks Q T H t0 t1 t5 hi hP hp hg hown hnd hpF hk K
  have t0 : T 0 = .slice (some ⟨p, o, none⟩) n 2 := t0
  have hP : P0.length = o + i * 2 := hP
  obtain ⟨w0, w1, F0, F1, rfl, o0, o1, hF⟩ := route_own hown
  subst F
  obtain ⟨nd0, l0, dj0⟩ := List.nodup_append.1 hnd
  have nd1 := l0
  rw [route_tot] at hk
  have lt0 := (rSlc rNeed).ownlt o0
  have lt1 := (rSlc rInt).ownlt o1
  have hp0 : p ∉ F0 := fun h => hpF (by simp only [List.mem_append]; simp [h])
  have hp1 : p ∉ F1 := fun h => hpF (by simp only [List.mem_append]; simp [h])
  have q0 : (mid P0 [w0, w1] Q0)[o + i * 2]? = some w0 := by exact mid_get (B := [w0, w1]) (o := 0) hP rfl
  have q1 : (mid P0 [w0, w1] Q0)[o + (i * 2 + 1)]? = some w1 := by rw [← Nat.add_assoc]; exact mid_get (B := [w0, w1]) (o := 1) hP rfl
  have C0 : Chg (p :: (F0 ++ F1)) H H := Chg.refl _ _
  simp (maxSteps := 4000000) (disch := omega) only [Zq, evO, vbox, wr, Zeq, if_true, if_false, Nat.reduceEqDiff, Nat.reduceAdd, Nat.reduceLeDiff, Nat.reduceSub, and_self, and_true, true_and, reduceIte, reduceCtorEq, eq_self, implies_true, forall_const, false_implies, imp_self, decide_true, decide_false, markRouteSB, t0, t1, t5, Zfo hi, Zfo, q0, q1, hg]
  have b0 := mar_le marB_Need x0 (k)
  refine GO_call ((markNeedS_is H [w0] x0 F0 (k) o0 nd0 (by omega)).mono ?_)
  rintro _ H1 ⟨c1, o0, rfl⟩
  have g1 := (c1.get p (by have := c1.nxt; have := C0.nxt; omega) hp0).trans hg
  have C1 := C0.trans (c1.mono (F' := p :: (F0 ++ F1)) (fun a ha => by simp only [List.mem_cons, List.mem_append]; simp [ha]))
  have o1 := (rSlc rInt).ownChg o1 c1 (fun a ha hm => dj0 a hm a (ha) rfl)
  simp (maxSteps := 4000000) (disch := omega) only [Zq, evO, vbox, wr, Zeq, if_true, if_false, Nat.reduceEqDiff, Nat.reduceAdd, Nat.reduceLeDiff, Nat.reduceSub, and_self, and_true, true_and, reduceIte, reduceCtorEq, eq_self, implies_true, forall_const, false_implies, imp_self, decide_true, decide_false, t0, t1, t5, Zfo hi, Zfo, q0, q1, g1]
  have b1 := mar_le MarB.int x1 (((rSlc rNeed).mar x0 k).2)
  refine GO_call ((markIntS_is H1 [w1] x1 F1 (((rSlc rNeed).mar x0 k).2) o1 nd1 (by omega)).mono ?_)
  rintro _ H2 ⟨c2, o1, rfl⟩
  have g2 := (c2.get p (by have := c2.nxt; have := C1.nxt; omega) hp1).trans g1
  have C2 := C1.trans (c2.mono (F' := p :: (F0 ++ F1)) (fun a ha => by simp only [List.mem_cons, List.mem_append]; simp [ha]))
  have o0 := (rSlc rNeed).ownChg o0 c2 (fun a ha hm => dj0 a ha a (hm) rfl)
  simp (maxSteps := 4000000) (disch := omega) only [Zq, evO, vbox, wr, Zeq, if_true, if_false, Nat.reduceEqDiff, Nat.reduceAdd, Nat.reduceLeDiff, Nat.reduceSub, and_self, and_true, true_and, reduceIte, reduceCtorEq, eq_self, implies_true, forall_const, false_implies, imp_self, decide_true, decide_false, t0, t1, t5, Zfo hi, Zfo, q0, q1, g2]
  refine K _ _ [w0, w1] ?_ ?_ ?_ C2 g2 (route_own' o0 o1)
  · simp (maxSteps := 4000000) (disch := omega) only [Zq, evO, vbox, wr, Zeq, if_true, if_false, Nat.reduceEqDiff, Nat.reduceAdd, Nat.reduceLeDiff, Nat.reduceSub, and_self, and_true, true_and, reduceIte, reduceCtorEq, eq_self, implies_true, forall_const, false_implies, imp_self, decide_true, decide_false, t0]
  · simp (maxSteps := 4000000) (disch := omega) only [Zq, evO, vbox, wr, Zeq, if_true, if_false, Nat.reduceEqDiff, Nat.reduceAdd, Nat.reduceLeDiff, Nat.reduceSub, and_self, and_true, true_and, reduceIte, reduceCtorEq, eq_self, implies_true, forall_const, false_implies, imp_self, decide_true, decide_false, t5]
  · simp (maxSteps := 4000000) (disch := omega) only [Zq, evO, vbox, wr, Zeq, if_true, if_false, Nat.reduceEqDiff, Nat.reduceAdd, Nat.reduceLeDiff, Nat.reduceSub, and_self, and_true, true_and, reduceIte, reduceCtorEq, eq_self, implies_true, forall_const, false_implies, imp_self, decide_true, decide_false, t1]
    try rfl
theorem markRouteS_is : IsMark Try.prog (rSlc rRoute) (rSlc rRoute).mar 66 := markSlc_is (A := 26) (body := markRouteSB) c66 marB_Route markRouteSB_is
def mPlant (x : (List Int) × Int × (List ((List (Int × Int)) × (List Int)))) (k : Nat) : ((List Int) × Int × (List ((List (Int × Int)) × (List Int)))) × Nat := ((((rSlc rInt).mar x.1 k).1, x.2.1, ((rSlc rRoute).mar x.2.2 ((rSlc rInt).mar x.1 k).2).1), ((rSlc rRoute).mar x.2.2 ((rSlc rInt).mar x.1 k).2).2)
theorem markPlant_is : IsMark Try.prog rPlant mPlant 31 := by
  rintro H cs ⟨x0, x1, x2⟩ F k hown hnd hk
  obtain ⟨v0, v2, F0, F2, rfl, o0, o2, hF⟩ := plant_own hown
  subst F
  obtain ⟨nd0, l0, dj0⟩ := List.nodup_append.1 hnd
  have nd2 := l0
  have lt0 := (rSlc rInt).ownlt o0
  have lt2 := (rSlc rRoute).ownlt o2
  rw [plant_tot] at hk
  refine Run.intro c31 rfl ?_
  simp only [plant_val]
  simp (maxSteps := 4000000) (disch := omega) only [Zq, evO, vbox, wr, Zeq, if_true, if_false, Nat.reduceEqDiff, Nat.reduceAdd, Nat.reduceLeDiff, Nat.reduceSub, and_self, and_true, true_and, reduceIte, reduceCtorEq, eq_self, implies_true, forall_const, false_implies, imp_self, decide_true, decide_false, x31]
  generalize hG : H.push [v0, .int .i64 x1, v2] = H0
  have K0 : Keep H H0 := by rw [← hG]; exact Keep.push _ _
  have g0 : H0.get H.nxt = some (.own [v0, .int .i64 x1, v2]) := by rw [← hG, push_get', if_pos rfl]
  have n0 : H.nxt < H0.nxt := by rw [← hG, Zbg]; omega
  have o0 := (rSlc rInt).ownKeep o0 K0
  have o2 := (rSlc rRoute).ownKeep o2 K0
  have C0 : Chg (F0 ++ F2) H H0 := K0.chg
  have b0 := mar_le MarB.int x0 (k)
  refine GO_call ((markIntS_is H0 [v0] x0 F0 (k) o0 nd0 (by omega)).mono ?_)
  rintro _ H1 ⟨c1, o0, rfl⟩
  have n1 := c1.nxt
  have o2 := (rSlc rRoute).ownChg o2 c1 (fun a ha hm => dj0 a hm a (ha) rfl)
  have C1 := C0.trans (c1.mono (fun a ha => by simp only [List.mem_append]; simp [ha]))
  have g1 := (c1.get H.nxt (by omega) (fun hm => by have := lt0 _ hm; omega)).trans g0
  simp (maxSteps := 4000000) (disch := omega) only [Zq, evO, vbox, wr, Zeq, if_true, if_false, Nat.reduceEqDiff, Nat.reduceAdd, Nat.reduceLeDiff, Nat.reduceSub, and_self, and_true, true_and, reduceIte, reduceCtorEq, eq_self, implies_true, forall_const, false_implies, imp_self, decide_true, decide_false, g1]
  have b2 := mar_le marB_Route x2 (((rSlc rInt).mar x0 k).2)
  refine GO_call ((markRouteS_is H1 [v2] x2 F2 (((rSlc rInt).mar x0 k).2) o2 nd2 (by omega)).mono ?_)
  rintro _ H2 ⟨c2, o2, rfl⟩
  have n2 := c2.nxt
  have o0 := (rSlc rInt).ownChg o0 c2 (fun a ha hm => dj0 a ha a (hm) rfl)
  have C2 := C1.trans (c2.mono (fun a ha => by simp only [List.mem_append]; simp [ha]))
  have g2 := (c2.get H.nxt (by omega) (fun hm => by have := lt2 _ hm; omega)).trans g1
  simp (maxSteps := 4000000) (disch := omega) only [Zq, evO, vbox, wr, Zeq, if_true, if_false, Nat.reduceEqDiff, Nat.reduceAdd, Nat.reduceLeDiff, Nat.reduceSub, and_self, and_true, true_and, reduceIte, reduceCtorEq, eq_self, implies_true, forall_const, false_implies, imp_self, decide_true, decide_false, g2]
  exact ⟨C2, plant_own' o0 o2, rfl⟩
theorem mar_Plant (x : (List Int) × Int × (List ((List (Int × Int)) × (List Int)))) (k : Nat) : (mPlant x k).2 ≤ k + 99 * rPlant.tot x := by
  obtain ⟨x0, x1, x2⟩ := x
  rw [plant_tot]
  simp only [mPlant]
  have b0 := mar_le MarB.int x0 (k)
  have b2 := mar_le marB_Route x2 (((rSlc rInt).mar x0 k).2)
  omega
-- Locking
def rLocking : Rep ((List Int) × (List Bool) × (List Bool)) := rPair (rSlc rInt) (rPair (rSlc rBool) (rSlc rBool))
theorem locking_rd {H : Heap} {cs : List Value} {x0 : List Int} {x1 : List Bool} {x2 : List Bool} (h : rLocking.rd H cs (x0, x1, x2)) : ∃ v0 v1 v2, cs = [v0, v1, v2] ∧ (rSlc rInt).rd H [v0] x0 ∧ (rSlc rBool).rd H [v1] x1 ∧ (rSlc rBool).rd H [v2] x2 := by
  obtain ⟨c0, d0, rfl, h0, c1, d1, rfl, h1, h2⟩ := h
  obtain ⟨v0, rfl⟩ := slc_one h0
  obtain ⟨v1, rfl⟩ := slc_one h1
  obtain ⟨v2, rfl⟩ := slc_one h2
  exact ⟨v0, v1, v2, rfl, h0, h1, h2⟩
theorem locking_rd' {H : Heap} {v0 v1 v2 : Value} {x0 : List Int} {x1 : List Bool} {x2 : List Bool} (h0 : (rSlc rInt).rd H [v0] x0) (h1 : (rSlc rBool).rd H [v1] x1) (h2 : (rSlc rBool).rd H [v2] x2) : rLocking.rd H [v0, v1, v2] (x0, x1, x2) := ⟨[v0], _, rfl, h0, ⟨[v1], _, rfl, h1, h2⟩⟩
theorem locking_own {H : Heap} {cs : List Value} {x0 : List Int} {x1 : List Bool} {x2 : List Bool} {F : List Nat} (h : rLocking.own H cs (x0, x1, x2) F) : ∃ v0 v1 v2 F0 F1 F2, cs = [v0, v1, v2] ∧ (rSlc rInt).own H [v0] x0 F0 ∧ (rSlc rBool).own H [v1] x1 F1 ∧ (rSlc rBool).own H [v2] x2 F2 ∧ F = F0 ++ (F1 ++ F2) := by
  obtain ⟨c0, d0, E0, G0, rfl, h0, ⟨c1, d1, E1, G1, rfl, h1, h2, rfl⟩, rfl⟩ := h
  obtain ⟨v0, rfl⟩ := slc_one ((rSlc rInt).ownrd h0)
  obtain ⟨v1, rfl⟩ := slc_one ((rSlc rBool).ownrd h1)
  obtain ⟨v2, rfl⟩ := slc_one ((rSlc rBool).ownrd h2)
  exact ⟨v0, v1, v2, E0, E1, G1, rfl, h0, h1, h2, by simp⟩
theorem locking_own' {H : Heap} {v0 v1 v2 : Value} {x0 : List Int} {x1 : List Bool} {x2 : List Bool} {F0 F1 F2 : List Nat} (h0 : (rSlc rInt).own H [v0] x0 F0) (h1 : (rSlc rBool).own H [v1] x1 F1) (h2 : (rSlc rBool).own H [v2] x2 F2) : rLocking.own H [v0, v1, v2] (x0, x1, x2) (F0 ++ (F1 ++ F2)) := by
  exact ⟨[v0], _, F0, _, rfl, h0, ⟨[v1], _, F1, _, rfl, h1, h2, rfl⟩, rfl⟩
theorem locking_val {v0 v1 v2 : Value}  : rLocking.val [v0, v1, v2] = .agg #[v0, v1, v2] := nofl rfl
theorem locking_tot {x0 : List Int} {x1 : List Bool} {x2 : List Bool} : rLocking.tot (x0, x1, x2) = (rSlc rInt).tot x0 + (rSlc rBool).tot x1 + (rSlc rBool).tot x2 := by
  show (rSlc rInt).tot x0 + ((rSlc rBool).tot x1 + (rSlc rBool).tot x2) = _
  omega
theorem marB_Locking : MarB rLocking := MarB.of (MarC.pair (MarC.slc MarB.int) (MarC.pair (MarC.slc MarB.bool) (MarC.slc MarB.bool))) (by omega)
theorem szBoolS_is : IsSz Try.prog (rSlc rBool) 57 := szPlain_is c57
theorem szLocking_is : IsSz Try.prog rLocking 25 := by
  rintro H cs ⟨x0, x1, x2⟩ q hrd hfit hq
  obtain ⟨f0, f1, f2⟩ := hfit
  obtain ⟨v0, v1, v2, rfl, h0, h1, h2⟩ := locking_rd hrd
  rw [locking_tot]
  refine Run.intro c25 rfl ?_
  simp only [locking_val]
  simp (maxSteps := 4000000) (disch := omega) only [Zq, evO, vbox, wr, Zeq, if_true, if_false, Nat.reduceEqDiff, Nat.reduceAdd, Nat.reduceLeDiff, Nat.reduceSub, and_self, and_true, true_and, reduceIte, reduceCtorEq, eq_self, implies_true, forall_const, false_implies, imp_self, decide_true, decide_false, x25]
  refine GO_call ((szIntS_is _ [v0] x0 q ((rSlc rInt).rdk h0 (Keep.push _ _)) f0 (by omega)).mono ?_)
  rintro w H1 ⟨k1, hw⟩
  have n1 := k1.nxt
  have g1 := k1.get H.nxt (by simp only [Zbg]; omega)
  simp (maxSteps := 4000000) (disch := omega) only [Zq, evO, vbox, wr, Zeq, if_true, if_false, Nat.reduceEqDiff, Nat.reduceAdd, Nat.reduceLeDiff, Nat.reduceSub, and_self, and_true, true_and, reduceIte, reduceCtorEq, eq_self, implies_true, forall_const, false_implies, imp_self, decide_true, decide_false] at n1 g1
  have K1 : Keep H H1 := Keep.trans (Keep.push _ _) k1
  rcases hw with rfl | ⟨q1, rfl, hq1⟩
  · simp (maxSteps := 4000000) (disch := omega) only [Zq, evO, vbox, wr, Zeq, if_true, if_false, Nat.reduceEqDiff, Nat.reduceAdd, Nat.reduceLeDiff, Nat.reduceSub, and_self, and_true, true_and, reduceIte, reduceCtorEq, eq_self, implies_true, forall_const, false_implies, imp_self, decide_true, decide_false, g1]
    exact ⟨K1, by simp⟩
  simp (maxSteps := 4000000) (disch := omega) only [Zq, evO, vbox, wr, Zeq, if_true, if_false, Nat.reduceEqDiff, Nat.reduceAdd, Nat.reduceLeDiff, Nat.reduceSub, and_self, and_true, true_and, reduceIte, reduceCtorEq, eq_self, implies_true, forall_const, false_implies, imp_self, decide_true, decide_false, g1]
  refine GO_call ((szBoolS_is _ [v1] x1 q1 ((rSlc rBool).rdk h1 K1) f1 (by omega)).mono ?_)
  rintro w H2 ⟨k2, hw⟩
  have n2 := k2.nxt
  have g2 := (k2.get H.nxt (by omega)).trans g1
  have K2 : Keep H H2 := Keep.trans K1 k2
  rcases hw with rfl | ⟨q2, rfl, hq2⟩
  · simp (maxSteps := 4000000) (disch := omega) only [Zq, evO, vbox, wr, Zeq, if_true, if_false, Nat.reduceEqDiff, Nat.reduceAdd, Nat.reduceLeDiff, Nat.reduceSub, and_self, and_true, true_and, reduceIte, reduceCtorEq, eq_self, implies_true, forall_const, false_implies, imp_self, decide_true, decide_false, g2]
    exact ⟨K2, by simp⟩
  simp (maxSteps := 4000000) (disch := omega) only [Zq, evO, vbox, wr, Zeq, if_true, if_false, Nat.reduceEqDiff, Nat.reduceAdd, Nat.reduceLeDiff, Nat.reduceSub, and_self, and_true, true_and, reduceIte, reduceCtorEq, eq_self, implies_true, forall_const, false_implies, imp_self, decide_true, decide_false, g2]
  refine GO_call ((szBoolS_is _ [v2] x2 q2 ((rSlc rBool).rdk h2 K2) f2 (by omega)).mono ?_)
  rintro w H3 ⟨k3, hw⟩
  have n3 := k3.nxt
  have g3 := (k3.get H.nxt (by omega)).trans g2
  have K3 : Keep H H3 := Keep.trans K2 k3
  rcases hw with rfl | ⟨q3, rfl, hq3⟩
  · simp (maxSteps := 4000000) (disch := omega) only [Zq, evO, vbox, wr, Zeq, if_true, if_false, Nat.reduceEqDiff, Nat.reduceAdd, Nat.reduceLeDiff, Nat.reduceSub, and_self, and_true, true_and, reduceIte, reduceCtorEq, eq_self, implies_true, forall_const, false_implies, imp_self, decide_true, decide_false, g3]
    exact ⟨K3, by simp⟩
  simp (maxSteps := 4000000) (disch := omega) only [Zq, evO, vbox, wr, Zeq, if_true, if_false, Nat.reduceEqDiff, Nat.reduceAdd, Nat.reduceLeDiff, Nat.reduceSub, and_self, and_true, true_and, reduceIte, reduceCtorEq, eq_self, implies_true, forall_const, false_implies, imp_self, decide_true, decide_false, g3]
  exact ⟨K3, .inr ⟨q3, rfl, by omega⟩⟩
theorem toBoolS_is : IsTo Try.prog (rSlc rBool) 63 := toPlain_is c63 (by omega)
theorem toLocking_is : IsTo Try.prog rLocking 28 := by
  rintro H cs ⟨x0, x1, x2⟩ hrd htot
  obtain ⟨v0, v1, v2, rfl, h0, h1, h2⟩ := locking_rd hrd
  rw [locking_tot] at htot
  refine Run.intro c28 rfl ?_
  simp only [locking_val]
  simp (maxSteps := 4000000) (disch := omega) only [Zq, evO, vbox, wr, Zeq, if_true, if_false, Nat.reduceEqDiff, Nat.reduceAdd, Nat.reduceLeDiff, Nat.reduceSub, and_self, and_true, true_and, reduceIte, reduceCtorEq, eq_self, implies_true, forall_const, false_implies, imp_self, decide_true, decide_false, x28]
  have K0 : Keep H H := Keep.refl H
  refine GO_call ((toIntS_is _ [v0] x0 ((rSlc rInt).rdk h0 (by repeat' (first | exact Keep.refl _ | assumption | refine Keep.push' ?_ | refine Keep.set' ?_ ?_ | refine Keep.moved' ?_ ?_ | omega))) (by omega)).mono ?_)
  rintro _ H1 ⟨k1, _, F0, rfl, o0, f0⟩
  obtain ⟨y0, rfl⟩ := slc_one ((rSlc rInt).ownrd o0)
  obtain ⟨y0a, y0b⟩ := slc_cell ((rSlc rInt).ownrd o0)
  have n1 := k1.nxt
  have gA1 := k1.get H.nxt (by simp only [Zbg, Zbh]; omega)
  have gB1 := k1.get (H.nxt + 1) (by simp only [Zbg, Zbh]; omega)
  have gC1 := k1.get (H.nxt + 2) (by simp only [Zbg, Zbh]; omega)
  have K1 : Keep H H1 := Keep.trans (by repeat' (first | exact Keep.refl _ | assumption | refine Keep.push' ?_ | refine Keep.set' ?_ ?_ | refine Keep.moved' ?_ ?_ | omega)) k1
  simp (maxSteps := 4000000) (disch := omega) only [Zq, evO, vbox, wr, Zeq, if_true, if_false, Nat.reduceEqDiff, Nat.reduceAdd, Nat.reduceLeDiff, Nat.reduceSub, and_self, and_true, true_and, reduceIte, reduceCtorEq, eq_self, implies_true, forall_const, false_implies, imp_self, decide_true, decide_false] at n1 gA1 gB1 gC1
  have f02 := f0.2
  simp only [Zbg, Zbh] at f02
  simp only [slc_val]
  simp (maxSteps := 4000000) (disch := omega) only [Zq, evO, vbox, wr, Zeq, if_true, if_false, Nat.reduceEqDiff, Nat.reduceAdd, Nat.reduceLeDiff, Nat.reduceSub, and_self, and_true, true_and, reduceIte, reduceCtorEq, eq_self, implies_true, forall_const, false_implies, imp_self, decide_true, decide_false, gA1, gB1, gC1, y0a, y0b]
  refine GO_call ((toBoolS_is _ [v1] x1 ((rSlc rBool).rdk h1 (by repeat' (first | exact Keep.refl _ | assumption | refine Keep.push' ?_ | refine Keep.set' ?_ ?_ | refine Keep.moved' ?_ ?_ | omega))) (by omega)).mono ?_)
  rintro _ H2 ⟨k2, _, F1, rfl, o1, f1⟩
  obtain ⟨y1, rfl⟩ := slc_one ((rSlc rBool).ownrd o1)
  obtain ⟨y1a, y1b⟩ := slc_cell ((rSlc rBool).ownrd o1)
  have n2 := k2.nxt
  have gA2 := k2.get H.nxt (by simp only [Zbg, Zbh]; omega)
  have gB2 := k2.get (H.nxt + 1) (by simp only [Zbg, Zbh]; omega)
  have gC2 := k2.get (H.nxt + 2) (by simp only [Zbg, Zbh]; omega)
  have K2 : Keep H H2 := Keep.trans (by repeat' (first | exact Keep.refl _ | assumption | refine Keep.push' ?_ | refine Keep.set' ?_ ?_ | refine Keep.moved' ?_ ?_ | omega)) k2
  have C2_0 : Chg [H.nxt + 1, H.nxt + 2] H1 H2 := by
    refine Chg.trans ?_ k2.chg
    repeat' (first | exact Chg.refl _ _ | refine Chg.trans ?_ (Chg.set (by simp)))
  have o0 := (rSlc rInt).ownChg o0 C2_0 (fun a ha => by have := f02 a ha; simp only [List.mem_cons, List.not_mem_nil, or_false, not_or]; omega)
  simp (maxSteps := 4000000) (disch := omega) only [Zq, evO, vbox, wr, Zeq, if_true, if_false, Nat.reduceEqDiff, Nat.reduceAdd, Nat.reduceLeDiff, Nat.reduceSub, and_self, and_true, true_and, reduceIte, reduceCtorEq, eq_self, implies_true, forall_const, false_implies, imp_self, decide_true, decide_false, gA1, gB1, gC1, y0a, y0b] at n2 gA2 gB2 gC2
  have f12 := f1.2
  simp only [Zbg, Zbh] at f12
  simp only [slc_val]
  simp (maxSteps := 4000000) (disch := omega) only [Zq, evO, vbox, wr, Zeq, if_true, if_false, Nat.reduceEqDiff, Nat.reduceAdd, Nat.reduceLeDiff, Nat.reduceSub, and_self, and_true, true_and, reduceIte, reduceCtorEq, eq_self, implies_true, forall_const, false_implies, imp_self, decide_true, decide_false, gA2, gB2, gC2, y0a, y0b, y1a, y1b]
  refine GO_call ((toBoolS_is _ [v2] x2 ((rSlc rBool).rdk h2 (by repeat' (first | exact Keep.refl _ | assumption | refine Keep.push' ?_ | refine Keep.set' ?_ ?_ | refine Keep.moved' ?_ ?_ | omega))) (by omega)).mono ?_)
  rintro _ H3 ⟨k3, _, F2, rfl, o2, f2⟩
  obtain ⟨y2, rfl⟩ := slc_one ((rSlc rBool).ownrd o2)
  obtain ⟨y2a, y2b⟩ := slc_cell ((rSlc rBool).ownrd o2)
  have n3 := k3.nxt
  have gA3 := k3.get H.nxt (by simp only [Zbg, Zbh]; omega)
  have gB3 := k3.get (H.nxt + 1) (by simp only [Zbg, Zbh]; omega)
  have gC3 := k3.get (H.nxt + 2) (by simp only [Zbg, Zbh]; omega)
  have K3 : Keep H H3 := Keep.trans (by repeat' (first | exact Keep.refl _ | assumption | refine Keep.push' ?_ | refine Keep.set' ?_ ?_ | refine Keep.moved' ?_ ?_ | omega)) k3
  have C3_0 : Chg [H.nxt + 1, H.nxt + 2] H2 H3 := by
    refine Chg.trans ?_ k3.chg
    repeat' (first | exact Chg.refl _ _ | refine Chg.trans ?_ (Chg.set (by simp)))
  have o0 := (rSlc rInt).ownChg o0 C3_0 (fun a ha => by have := f02 a ha; simp only [List.mem_cons, List.not_mem_nil, or_false, not_or]; omega)
  have C3_1 : Chg [H.nxt + 1, H.nxt + 2] H2 H3 := by
    refine Chg.trans ?_ k3.chg
    repeat' (first | exact Chg.refl _ _ | refine Chg.trans ?_ (Chg.set (by simp)))
  have o1 := (rSlc rBool).ownChg o1 C3_1 (fun a ha => by have := f12 a ha; simp only [List.mem_cons, List.not_mem_nil, or_false, not_or]; omega)
  simp (maxSteps := 4000000) (disch := omega) only [Zq, evO, vbox, wr, Zeq, if_true, if_false, Nat.reduceEqDiff, Nat.reduceAdd, Nat.reduceLeDiff, Nat.reduceSub, and_self, and_true, true_and, reduceIte, reduceCtorEq, eq_self, implies_true, forall_const, false_implies, imp_self, decide_true, decide_false, gA2, gB2, gC2, y0a, y0b, y1a, y1b] at n3 gA3 gB3 gC3
  have f22 := f2.2
  simp only [Zbg, Zbh] at f22
  simp only [slc_val]
  simp (maxSteps := 4000000) (disch := omega) only [Zq, evO, vbox, wr, Zeq, if_true, if_false, Nat.reduceEqDiff, Nat.reduceAdd, Nat.reduceLeDiff, Nat.reduceSub, and_self, and_true, true_and, reduceIte, reduceCtorEq, eq_self, implies_true, forall_const, false_implies, imp_self, decide_true, decide_false, gA3, gB3, gC3, y0a, y0b, y1a, y1b, y2a, y2b]
  refine ⟨by repeat' (first | exact Keep.refl _ | assumption | refine Keep.push' ?_ | refine Keep.set' ?_ ?_ | refine Keep.moved' ?_ ?_ | omega), [y0, y1, y2], F0 ++ (F1 ++ F2), rfl, locking_own' ((rSlc rInt).ownChg (G := [H.nxt + 1, H.nxt + 2]) o0 (by repeat' (first | exact Chg.refl _ _ | refine Chg.trans ?_ (Chg.set (by simp)))) (fun a ha => by have := f02 a ha; simp only [List.mem_cons, List.not_mem_nil, or_false, not_or]; omega)) ((rSlc rBool).ownChg (G := [H.nxt + 1, H.nxt + 2]) o1 (by repeat' (first | exact Chg.refl _ _ | refine Chg.trans ?_ (Chg.set (by simp)))) (fun a ha => by have := f12 a ha; simp only [List.mem_cons, List.not_mem_nil, or_false, not_or]; omega)) ((rSlc rBool).ownChg (G := [H.nxt + 1, H.nxt + 2]) o2 (by repeat' (first | exact Chg.refl _ _ | refine Chg.trans ?_ (Chg.set (by simp)))) (fun a ha => by have := f22 a ha; simp only [List.mem_cons, List.not_mem_nil, or_false, not_or]; omega)), ?_, fun i hi => ?_⟩
  · skip
    refine List.nodup_append.2 ⟨f0.1, ?_, fun a ha b hb => ?_⟩
    · skip
      refine List.nodup_append.2 ⟨f1.1, ?_, fun a ha b hb => ?_⟩
      · skip
        exact f2.1
      · have := f12 a ha
        have := f22 b hb
        omega
    · have := f02 a ha
      simp only [List.mem_append] at hb
      rcases hb with hb | hb
      · have := f12 b hb; omega
      · have := f22 b hb; omega
  · simp only [Zbh]
    simp only [List.mem_append] at hi
    rcases hi with hi | hi | hi
    · have := f02 i hi; omega
    · have := f12 i hi; omega
    · have := f22 i hi; omega
theorem eqBoolS_is : IsEq Try.prog (rSlc rBool) 64 := eqBool_is c64 (fun H a => vbinB_ne)
theorem eqLocking_is : IsEq Try.prog rLocking 29 := by
  rintro H cs ds ⟨x0, x1, x2⟩ hrd hrd2 htot
  obtain ⟨v0, v1, v2, rfl, h0, h1, h2⟩ := locking_rd hrd
  obtain ⟨u0, u1, u2, rfl, l0, l1, l2⟩ := locking_rd hrd2
  rw [locking_tot] at htot
  refine Run.intro c29 rfl ?_
  simp only [locking_val]
  simp (maxSteps := 4000000) (disch := omega) only [Zq, evO, vbox, wr, Zeq, if_true, if_false, Nat.reduceEqDiff, Nat.reduceAdd, Nat.reduceLeDiff, Nat.reduceSub, and_self, and_true, true_and, reduceIte, reduceCtorEq, eq_self, implies_true, forall_const, false_implies, imp_self, decide_true, decide_false, x29, vbinB_ne]
  refine GO_call ((eqIntS_is _ [v0] [u0] x0 ((rSlc rInt).rdk h0 (by repeat' (first | exact Keep.refl _ | assumption | refine Keep.push' ?_ | refine Keep.set' ?_ ?_ | refine Keep.moved' ?_ ?_ | omega))) ((rSlc rInt).rdk l0 (by repeat' (first | exact Keep.refl _ | assumption | refine Keep.push' ?_ | refine Keep.set' ?_ ?_ | refine Keep.moved' ?_ ?_ | omega))) (by omega)).mono ?_)
  rintro _ H1 ⟨k1, rfl⟩
  have n1 := k1.nxt
  have gA1 := k1.get H.nxt (by simp only [Zbg]; omega)
  have gB1 := k1.get (H.nxt + 1) (by simp only [Zbg]; omega)
  simp (maxSteps := 4000000) (disch := omega) only [Zq, evO, vbox, wr, Zeq, if_true, if_false, Nat.reduceEqDiff, Nat.reduceAdd, Nat.reduceLeDiff, Nat.reduceSub, and_self, and_true, true_and, reduceIte, reduceCtorEq, eq_self, implies_true, forall_const, false_implies, imp_self, decide_true, decide_false] at n1 gA1 gB1
  have K1 : Keep H H1 := Keep.trans (by repeat' (first | exact Keep.refl _ | assumption | refine Keep.push' ?_ | refine Keep.set' ?_ ?_ | refine Keep.moved' ?_ ?_ | omega)) k1
  simp (maxSteps := 4000000) (disch := omega) only [Zq, evO, vbox, wr, Zeq, if_true, if_false, Nat.reduceEqDiff, Nat.reduceAdd, Nat.reduceLeDiff, Nat.reduceSub, and_self, and_true, true_and, reduceIte, reduceCtorEq, eq_self, implies_true, forall_const, false_implies, imp_self, decide_true, decide_false, vbinB_ne, gA1, gB1]
  refine GO_call ((eqBoolS_is _ [v1] [u1] x1 ((rSlc rBool).rdk h1 K1) ((rSlc rBool).rdk l1 K1) (by omega)).mono ?_)
  rintro _ H2 ⟨k2, rfl⟩
  have n2 := k2.nxt
  have gA2 := (k2.get H.nxt (by omega)).trans gA1
  have gB2 := (k2.get (H.nxt + 1) (by omega)).trans gB1
  have K2 : Keep H H2 := Keep.trans K1 k2
  simp (maxSteps := 4000000) (disch := omega) only [Zq, evO, vbox, wr, Zeq, if_true, if_false, Nat.reduceEqDiff, Nat.reduceAdd, Nat.reduceLeDiff, Nat.reduceSub, and_self, and_true, true_and, reduceIte, reduceCtorEq, eq_self, implies_true, forall_const, false_implies, imp_self, decide_true, decide_false, vbinB_ne, gA2, gB2]
  refine GO_call ((eqBoolS_is _ [v2] [u2] x2 ((rSlc rBool).rdk h2 K2) ((rSlc rBool).rdk l2 K2) (by omega)).mono ?_)
  rintro _ H3 ⟨k3, rfl⟩
  have K3 : Keep H H3 := Keep.trans K2 k3
  simp (maxSteps := 4000000) (disch := omega) only [Zq, evO, vbox, wr, Zeq, if_true, if_false, Nat.reduceEqDiff, Nat.reduceAdd, Nat.reduceLeDiff, Nat.reduceSub, and_self, and_true, true_and, reduceIte, reduceCtorEq, eq_self, implies_true, forall_const, false_implies, imp_self, decide_true, decide_false, vbinB_ne, gA2, gB2]
  try exact K3
theorem markBoolS_is : IsMark Try.prog (rSlc rBool) (rSlc rBool).mar 67 := markMarkBool_is c67
def mLocking (x : (List Int) × (List Bool) × (List Bool)) (k : Nat) : ((List Int) × (List Bool) × (List Bool)) × Nat := ((((rSlc rInt).mar x.1 k).1, ((rSlc rBool).mar x.2.1 ((rSlc rInt).mar x.1 k).2).1, ((rSlc rBool).mar x.2.2 ((rSlc rBool).mar x.2.1 ((rSlc rInt).mar x.1 k).2).2).1), ((rSlc rBool).mar x.2.2 ((rSlc rBool).mar x.2.1 ((rSlc rInt).mar x.1 k).2).2).2)
theorem markLocking_is : IsMark Try.prog rLocking mLocking 32 := by
  rintro H cs ⟨x0, x1, x2⟩ F k hown hnd hk
  obtain ⟨v0, v1, v2, F0, F1, F2, rfl, o0, o1, o2, hF⟩ := locking_own hown
  subst F
  obtain ⟨nd0, l0, dj0⟩ := List.nodup_append.1 hnd
  obtain ⟨nd1, l1, dj1⟩ := List.nodup_append.1 l0
  have nd2 := l1
  have lt0 := (rSlc rInt).ownlt o0
  have lt1 := (rSlc rBool).ownlt o1
  have lt2 := (rSlc rBool).ownlt o2
  rw [locking_tot] at hk
  refine Run.intro c32 rfl ?_
  simp only [locking_val]
  simp (maxSteps := 4000000) (disch := omega) only [Zq, evO, vbox, wr, Zeq, if_true, if_false, Nat.reduceEqDiff, Nat.reduceAdd, Nat.reduceLeDiff, Nat.reduceSub, and_self, and_true, true_and, reduceIte, reduceCtorEq, eq_self, implies_true, forall_const, false_implies, imp_self, decide_true, decide_false, x32]
  generalize hG : H.push [v0, v1, v2] = H0
  have K0 : Keep H H0 := by rw [← hG]; exact Keep.push _ _
  have g0 : H0.get H.nxt = some (.own [v0, v1, v2]) := by rw [← hG, push_get', if_pos rfl]
  have n0 : H.nxt < H0.nxt := by rw [← hG, Zbg]; omega
  have o0 := (rSlc rInt).ownKeep o0 K0
  have o1 := (rSlc rBool).ownKeep o1 K0
  have o2 := (rSlc rBool).ownKeep o2 K0
  have C0 : Chg (F0 ++ (F1 ++ F2)) H H0 := K0.chg
  have b0 := mar_le MarB.int x0 (k)
  refine GO_call ((markIntS_is H0 [v0] x0 F0 (k) o0 nd0 (by omega)).mono ?_)
  rintro _ H1 ⟨c1, o0, rfl⟩
  have n1 := c1.nxt
  have o1 := (rSlc rBool).ownChg o1 c1 (fun a ha hm => dj0 a hm a (List.mem_append_left _ ha) rfl)
  have o2 := (rSlc rBool).ownChg o2 c1 (fun a ha hm => dj0 a hm a (List.mem_append_right _ (ha)) rfl)
  have C1 := C0.trans (c1.mono (fun a ha => by simp only [List.mem_append]; simp [ha]))
  have g1 := (c1.get H.nxt (by omega) (fun hm => by have := lt0 _ hm; omega)).trans g0
  simp (maxSteps := 4000000) (disch := omega) only [Zq, evO, vbox, wr, Zeq, if_true, if_false, Nat.reduceEqDiff, Nat.reduceAdd, Nat.reduceLeDiff, Nat.reduceSub, and_self, and_true, true_and, reduceIte, reduceCtorEq, eq_self, implies_true, forall_const, false_implies, imp_self, decide_true, decide_false, g1]
  have b1 := mar_le MarB.bool x1 (((rSlc rInt).mar x0 k).2)
  refine GO_call ((markBoolS_is H1 [v1] x1 F1 (((rSlc rInt).mar x0 k).2) o1 nd1 (by omega)).mono ?_)
  rintro _ H2 ⟨c2, o1, rfl⟩
  have n2 := c2.nxt
  have o0 := (rSlc rInt).ownChg o0 c2 (fun a ha hm => dj0 a ha a (List.mem_append_left _ hm) rfl)
  have o2 := (rSlc rBool).ownChg o2 c2 (fun a ha hm => dj1 a hm a (ha) rfl)
  have C2 := C1.trans (c2.mono (fun a ha => by simp only [List.mem_append]; simp [ha]))
  have g2 := (c2.get H.nxt (by omega) (fun hm => by have := lt1 _ hm; omega)).trans g1
  simp (maxSteps := 4000000) (disch := omega) only [Zq, evO, vbox, wr, Zeq, if_true, if_false, Nat.reduceEqDiff, Nat.reduceAdd, Nat.reduceLeDiff, Nat.reduceSub, and_self, and_true, true_and, reduceIte, reduceCtorEq, eq_self, implies_true, forall_const, false_implies, imp_self, decide_true, decide_false, g2]
  have b2 := mar_le MarB.bool x2 (((rSlc rBool).mar x1 (((rSlc rInt).mar x0 k).2)).2)
  refine GO_call ((markBoolS_is H2 [v2] x2 F2 (((rSlc rBool).mar x1 (((rSlc rInt).mar x0 k).2)).2) o2 nd2 (by omega)).mono ?_)
  rintro _ H3 ⟨c3, o2, rfl⟩
  have n3 := c3.nxt
  have o0 := (rSlc rInt).ownChg o0 c3 (fun a ha hm => dj0 a ha a (List.mem_append_right _ (hm)) rfl)
  have o1 := (rSlc rBool).ownChg o1 c3 (fun a ha hm => dj1 a ha a (hm) rfl)
  have C3 := C2.trans (c3.mono (fun a ha => by simp only [List.mem_append]; simp [ha]))
  have g3 := (c3.get H.nxt (by omega) (fun hm => by have := lt2 _ hm; omega)).trans g2
  simp (maxSteps := 4000000) (disch := omega) only [Zq, evO, vbox, wr, Zeq, if_true, if_false, Nat.reduceEqDiff, Nat.reduceAdd, Nat.reduceLeDiff, Nat.reduceSub, and_self, and_true, true_and, reduceIte, reduceCtorEq, eq_self, implies_true, forall_const, false_implies, imp_self, decide_true, decide_false, g3]
  exact ⟨C3, locking_own' o0 o1 o2, rfl⟩
theorem heldIntS_is : IsHeld Try.prog (rSlc rInt) (rSlc rInt).mar 43 := heldHeldInt_is c43
theorem heldBoolS_is : IsHeld Try.prog (rSlc rBool) (rSlc rBool).mar 68 := heldHeldBool_is c68
theorem heldLocking_is : IsHeld Try.prog rLocking mLocking 33 := by
  rintro H cs ⟨x0, x1, x2⟩ k hrd hk
  obtain ⟨v0, v1, v2, rfl, h0, h1, h2⟩ := locking_rd hrd
  rw [locking_tot] at hk
  refine Run.intro c33 rfl ?_
  simp only [locking_val]
  simp (maxSteps := 4000000) (disch := omega) only [Zq, evO, vbox, wr, Zeq, if_true, if_false, Nat.reduceEqDiff, Nat.reduceAdd, Nat.reduceLeDiff, Nat.reduceSub, and_self, and_true, true_and, reduceIte, reduceCtorEq, eq_self, implies_true, forall_const, false_implies, imp_self, decide_true, decide_false, x33]
  generalize hG : H.push [v0, v1, v2] = H0
  have K0 : Keep H H0 := by rw [← hG]; exact Keep.push _ _
  have g0 : H0.get H.nxt = some (.own [v0, v1, v2]) := by rw [← hG, push_get', if_pos rfl]
  have n0 : H.nxt < H0.nxt := by rw [← hG, Zbg]; omega
  have b0 := mar_le MarB.int x0 (k)
  refine GO_call ((heldIntS_is H0 [v0] x0 (k) ((rSlc rInt).rdk h0 K0) (by omega)).mono ?_)
  rintro _ H1 ⟨k1, rfl⟩
  have n1 := k1.nxt
  have K1 := K0.trans k1
  have g1 := (k1.get H.nxt (by omega)).trans g0
  simp (maxSteps := 4000000) (disch := omega) only [Zq, evO, vbox, wr, Zeq, if_true, if_false, Nat.reduceEqDiff, Nat.reduceAdd, Nat.reduceLeDiff, Nat.reduceSub, and_self, and_true, true_and, reduceIte, reduceCtorEq, eq_self, implies_true, forall_const, false_implies, imp_self, decide_true, decide_false, g1]
  have b1 := mar_le MarB.bool x1 (((rSlc rInt).mar x0 k).2)
  refine GO_call ((heldBoolS_is H1 [v1] x1 (((rSlc rInt).mar x0 k).2) ((rSlc rBool).rdk h1 K1) (by omega)).mono ?_)
  rintro _ H2 ⟨k2, rfl⟩
  have n2 := k2.nxt
  have K2 := K1.trans k2
  have g2 := (k2.get H.nxt (by omega)).trans g1
  simp (maxSteps := 4000000) (disch := omega) only [Zq, evO, vbox, wr, Zeq, if_true, if_false, Nat.reduceEqDiff, Nat.reduceAdd, Nat.reduceLeDiff, Nat.reduceSub, and_self, and_true, true_and, reduceIte, reduceCtorEq, eq_self, implies_true, forall_const, false_implies, imp_self, decide_true, decide_false, g2]
  have b2 := mar_le MarB.bool x2 (((rSlc rBool).mar x1 (((rSlc rInt).mar x0 k).2)).2)
  refine GO_call ((heldBoolS_is H2 [v2] x2 (((rSlc rBool).mar x1 (((rSlc rInt).mar x0 k).2)).2) ((rSlc rBool).rdk h2 K2) (by omega)).mono ?_)
  rintro _ H3 ⟨k3, rfl⟩
  have n3 := k3.nxt
  have K3 := K2.trans k3
  have g3 := (k3.get H.nxt (by omega)).trans g2
  simp (maxSteps := 4000000) (disch := omega) only [Zq, evO, vbox, wr, Zeq, if_true, if_false, Nat.reduceEqDiff, Nat.reduceAdd, Nat.reduceLeDiff, Nat.reduceSub, and_self, and_true, true_and, reduceIte, reduceCtorEq, eq_self, implies_true, forall_const, false_implies, imp_self, decide_true, decide_false, g3]
  exact ⟨K3, rfl⟩
theorem mar_Locking (x : (List Int) × (List Bool) × (List Bool)) (k : Nat) : (mLocking x k).2 ≤ k + 99 * rLocking.tot x := by
  obtain ⟨x0, x1, x2⟩ := x
  rw [locking_tot]
  simp only [mLocking]
  have b0 := mar_le MarB.int x0 (k)
  have b1 := mar_le MarB.bool x1 (((rSlc rInt).mar x0 k).2)
  have b2 := mar_le MarB.bool x2 (((rSlc rBool).mar x1 (((rSlc rInt).mar x0 k).2)).2)
  omega
end Go.Proofs.Ythjphddodooahaa.AX
