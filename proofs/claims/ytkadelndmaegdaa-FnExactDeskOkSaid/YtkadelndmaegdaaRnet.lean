/- Nets: what the laws' helpers do. No condition beyond each law's own; of the program: the functions' forms. -/
import Derived.Test.YtkadelndmaegdaaXF
import Derived.Test.YtkadelndmaegdaaAXzg
namespace Go.Proofs.Ytkadelndmaegdaa.AX
open Go
set_option maxRecDepth 10000
set_option maxHeartbeats 4000000
set_option linter.unusedSimpArgs false
set_option linter.unusedVariables false
-- Edge
def edgeC (x : Int × Int × Int × Int) : List Value := [.int .i64 x.1, .int .i64 x.2.1, .int .i64 x.2.2.1, .int .i64 x.2.2.2]
theorem edgeC_len (x : Int × Int × Int × Int) : (edgeC x).length = 4 := rfl
def edgeM (x : Int × Int × Int × Int) (k : Nat) : (Int × Int × Int × Int) × Nat := ((((k + 0 : Nat) : Int), ((k + 1 : Nat) : Int), ((k + 2 : Nat) : Int), ((k + 3 : Nat) : Int)), k + 4)
abbrev rEdge : Rep (Int × Int × Int × Int) := flatRep edgeC 4 edgeC_len edgeM
theorem edge_val (x : Int × Int × Int × Int) : rEdge.val (edgeC x) = .agg #[.int .i64 x.1, .int .i64 x.2.1, .int .i64 x.2.2.1, .int .i64 x.2.2.2] := nofl rfl
theorem marB_Edge : MarB rEdge := fun x k => by show k + 4 ≤ _; omega
-- Net
def rNet : Rep (Int × (List (Int × Int × Int × Int))) := rPair rInt (rSlc rEdge)
theorem net_rd {H : Heap} {cs : List Value} {x0 : Int} {x1 : List (Int × Int × Int × Int)} (h : rNet.rd H cs (x0, x1)) : ∃ v1, cs = [.int .i64 x0, v1] ∧ (rSlc rEdge).rd H [v1] x1 := by
  obtain ⟨c0, d0, rfl, h0, h1⟩ := h
  have e0 : c0 = [.int .i64 x0] := h0
  subst e0
  obtain ⟨v1, rfl⟩ := slc_one h1
  exact ⟨v1, rfl, h1⟩
theorem net_rd' {H : Heap} {v1 : Value} {x0 : Int} {x1 : List (Int × Int × Int × Int)} (h1 : (rSlc rEdge).rd H [v1] x1) : rNet.rd H [.int .i64 x0, v1] (x0, x1) := ⟨[.int .i64 x0], _, rfl, rfl, h1⟩
theorem net_own {H : Heap} {cs : List Value} {x0 : Int} {x1 : List (Int × Int × Int × Int)} {F : List Nat} (h : rNet.own H cs (x0, x1) F) : ∃ v1 F1, cs = [.int .i64 x0, v1] ∧ (rSlc rEdge).own H [v1] x1 F1 ∧ F = F1 := by
  obtain ⟨c0, d0, E0, G0, rfl, h0, h1, rfl⟩ := h
  obtain ⟨e0, f0⟩ : c0 = [.int .i64 x0] ∧ E0 = [] := h0
  subst e0 f0
  obtain ⟨v1, rfl⟩ := slc_one ((rSlc rEdge).ownrd h1)
  exact ⟨v1, G0, rfl, h1, by simp⟩
theorem net_own' {H : Heap} {v1 : Value} {x0 : Int} {x1 : List (Int × Int × Int × Int)} {F1 : List Nat} (h1 : (rSlc rEdge).own H [v1] x1 F1) : rNet.own H [.int .i64 x0, v1] (x0, x1) (F1) := by
  have e : F1 = ([] : List Nat) ++ F1 := by simp
  rw [e]
  exact ⟨[.int .i64 x0], _, [], _, rfl, ⟨rfl, rfl⟩, h1, rfl⟩
theorem net_val {v1 : Value} {x0 : Int} : rNet.val [.int .i64 x0, v1] = .agg #[.int .i64 x0, v1] := nofl rfl
theorem net_tot {x0 : Int} {x1 : List (Int × Int × Int × Int)} : rNet.tot (x0, x1) = (rSlc rEdge).tot x1 := by
  show 0 + (rSlc rEdge).tot x1 = _
  omega
theorem marB_Net : MarB rNet := MarB.of (MarC.pair (MarC.leaf (f := .int .i64) (m := fun k => (k : Int)) (hf := oneCell_int)) (MarC.slc marB_Edge)) (by omega)
theorem szEdgeS_is : IsSz Try.prog (rSlc rEdge) 58 := szFlat_is c58 (fun _ => rfl)
theorem szNet_is : IsSz Try.prog rNet 26 := by
  rintro H cs ⟨x0, x1⟩ q hrd hfit hq
  obtain ⟨f0, f1⟩ := hfit
  obtain ⟨v1, rfl, h1⟩ := net_rd hrd
  rw [net_tot]
  refine Run.intro c26 rfl ?_
  simp only [net_val]
  simp (maxSteps := 4000000) (disch := omega) only [Zq, evO, vbox, wr, Zeq, if_true, if_false, Nat.reduceEqDiff, Nat.reduceAdd, Nat.reduceLeDiff, Nat.reduceSub, and_self, and_true, true_and, reduceIte, reduceCtorEq, eq_self, implies_true, forall_const, false_implies, imp_self, decide_true, decide_false, x26]
  refine GO_call ((szEdgeS_is _ [v1] x1 q ((rSlc rEdge).rdk h1 (Keep.push _ _)) f1 (by omega)).mono ?_)
  rintro w H1 ⟨k1, hw⟩
  have n1 := k1.nxt
  have g1 := k1.get H.nxt (by simp only [Zbg]; omega)
  simp (maxSteps := 4000000) (disch := omega) only [Zq, evO, vbox, wr, Zeq, if_true, if_false, Nat.reduceEqDiff, Nat.reduceAdd, Nat.reduceLeDiff, Nat.reduceSub, and_self, and_true, true_and, reduceIte, reduceCtorEq, eq_self, implies_true, forall_const, false_implies, imp_self, decide_true, decide_false] at n1 g1
  have K1 : Keep H H1 := Keep.trans (Keep.push _ _) k1
  rcases hw with rfl | ⟨q1, rfl, hq1⟩
  · simp (maxSteps := 4000000) (disch := omega) only [Zq, evO, vbox, wr, Zeq, if_true, if_false, Nat.reduceEqDiff, Nat.reduceAdd, Nat.reduceLeDiff, Nat.reduceSub, and_self, and_true, true_and, reduceIte, reduceCtorEq, eq_self, implies_true, forall_const, false_implies, imp_self, decide_true, decide_false, g1]
    exact ⟨K1, by simp⟩
  simp (maxSteps := 4000000) (disch := omega) only [Zq, evO, vbox, wr, Zeq, if_true, if_false, Nat.reduceEqDiff, Nat.reduceAdd, Nat.reduceLeDiff, Nat.reduceSub, and_self, and_true, true_and, reduceIte, reduceCtorEq, eq_self, implies_true, forall_const, false_implies, imp_self, decide_true, decide_false, g1]
  exact ⟨K1, .inr ⟨q1, rfl, by omega⟩⟩
theorem toEdge_is : IsTo Try.prog rEdge 83 := by
  intro H cs a hrd _
  have e : cs = edgeC a := hrd
  subst e
  refine Run.intro c83 rfl ?_
  simp only [edge_val]
  simp (maxSteps := 4000000) (disch := omega) only [Zq, evO, vbox, wr, Zeq, if_true, if_false, Nat.reduceEqDiff, Nat.reduceAdd, Nat.reduceLeDiff, Nat.reduceSub, and_self, and_true, true_and, reduceIte, reduceCtorEq, eq_self, implies_true, forall_const, false_implies, imp_self, decide_true, decide_false, x83]
  exact ⟨by repeat' (first | exact Keep.refl _ | assumption | refine Keep.push' ?_ | refine Keep.set' ?_ ?_ | refine Keep.moved' ?_ ?_ | omega), edgeC a, [], rfl, ⟨rfl, rfl⟩, List.nodup_nil, fun i hi => by cases hi⟩
theorem elemEdge : Elem rEdge true 4 := ⟨rfl, by omega, fun _ _ => rfl, fun h => by cases h⟩
theorem toEdgeS_is : IsTo Try.prog (rSlc rEdge) 66 := toCall_is (agg := true) (sz := 4) (bytes := 32) (zs := [.int .i64 0, .int .i64 0, .int .i64 0, .int .i64 0]) c66 (by omega) rfl elemEdge toEdge_is
theorem toNet_is : IsTo Try.prog rNet 34 := by
  rintro H cs ⟨x0, x1⟩ hrd htot
  obtain ⟨v1, rfl, h1⟩ := net_rd hrd
  rw [net_tot] at htot
  refine Run.intro c34 rfl ?_
  simp only [net_val]
  simp (maxSteps := 4000000) (disch := omega) only [Zq, evO, vbox, wr, Zeq, if_true, if_false, Nat.reduceEqDiff, Nat.reduceAdd, Nat.reduceLeDiff, Nat.reduceSub, and_self, and_true, true_and, reduceIte, reduceCtorEq, eq_self, implies_true, forall_const, false_implies, imp_self, decide_true, decide_false, x34]
  have K0 : Keep H H := Keep.refl H
  refine GO_call ((toEdgeS_is _ [v1] x1 ((rSlc rEdge).rdk h1 (by repeat' (first | exact Keep.refl _ | assumption | refine Keep.push' ?_ | refine Keep.set' ?_ ?_ | refine Keep.moved' ?_ ?_ | omega))) (by omega)).mono ?_)
  rintro _ H1 ⟨k1, _, F1, rfl, o1, f1⟩
  obtain ⟨y1, rfl⟩ := slc_one ((rSlc rEdge).ownrd o1)
  obtain ⟨y1a, y1b⟩ := slc_cell ((rSlc rEdge).ownrd o1)
  have n1 := k1.nxt
  have gA1 := k1.get H.nxt (by simp only [Zbg, Zbh]; omega)
  have gB1 := k1.get (H.nxt + 1) (by simp only [Zbg, Zbh]; omega)
  have gC1 := k1.get (H.nxt + 2) (by simp only [Zbg, Zbh]; omega)
  have K1 : Keep H H1 := Keep.trans (by repeat' (first | exact Keep.refl _ | assumption | refine Keep.push' ?_ | refine Keep.set' ?_ ?_ | refine Keep.moved' ?_ ?_ | omega)) k1
  simp (maxSteps := 4000000) (disch := omega) only [Zq, evO, vbox, wr, Zeq, if_true, if_false, Nat.reduceEqDiff, Nat.reduceAdd, Nat.reduceLeDiff, Nat.reduceSub, and_self, and_true, true_and, reduceIte, reduceCtorEq, eq_self, implies_true, forall_const, false_implies, imp_self, decide_true, decide_false] at n1 gA1 gB1 gC1
  have f12 := f1.2
  simp only [Zbg, Zbh] at f12
  simp only [slc_val]
  simp (maxSteps := 4000000) (disch := omega) only [Zq, evO, vbox, wr, Zeq, if_true, if_false, Nat.reduceEqDiff, Nat.reduceAdd, Nat.reduceLeDiff, Nat.reduceSub, and_self, and_true, true_and, reduceIte, reduceCtorEq, eq_self, implies_true, forall_const, false_implies, imp_self, decide_true, decide_false, gA1, gB1, gC1, y1a, y1b]
  refine ⟨by repeat' (first | exact Keep.refl _ | assumption | refine Keep.push' ?_ | refine Keep.set' ?_ ?_ | refine Keep.moved' ?_ ?_ | omega), [.int .i64 x0, y1], F1, rfl, net_own' ((rSlc rEdge).ownChg (G := [H.nxt + 1, H.nxt + 2]) o1 (by repeat' (first | exact Chg.refl _ _ | refine Chg.trans ?_ (Chg.set (by simp)))) (fun a ha => by have := f12 a ha; simp only [List.mem_cons, List.not_mem_nil, or_false, not_or]; omega)), ?_, fun i hi => ?_⟩
  · skip
    exact f1.1
  · simp only [Zbh]
    have := f12 i hi
    omega
theorem eqEdge_is : IsEq Try.prog rEdge 78 := by
  intro H cs ds a hrd hrd2 _
  have e : cs = edgeC a := hrd
  have e2 : ds = edgeC a := hrd2
  subst e e2
  refine Run.intro c78 rfl ?_
  simp only [edge_val]
  simp (maxSteps := 4000000) (disch := omega) only [Zq, evO, vbox, wr, Zeq, if_true, if_false, Nat.reduceEqDiff, Nat.reduceAdd, Nat.reduceLeDiff, Nat.reduceSub, and_self, and_true, true_and, reduceIte, reduceCtorEq, eq_self, implies_true, forall_const, false_implies, imp_self, decide_true, decide_false, x78, vbinB_ne]
  try repeat' (first | exact Keep.refl _ | assumption | refine Keep.push' ?_ | refine Keep.set' ?_ ?_ | refine Keep.moved' ?_ ?_ | omega)
theorem eqEdgeS_is : IsEq Try.prog (rSlc rEdge) 42 := eqCall_is (agg := true) (sz := 4) c42 elemEdge eqEdge_is
theorem eqNet_is : IsEq Try.prog rNet 14 := by
  rintro H cs ds ⟨x0, x1⟩ hrd hrd2 htot
  obtain ⟨v1, rfl, h1⟩ := net_rd hrd
  obtain ⟨u1, rfl, l1⟩ := net_rd hrd2
  rw [net_tot] at htot
  refine Run.intro c14 rfl ?_
  simp only [net_val]
  simp (maxSteps := 4000000) (disch := omega) only [Zq, evO, vbox, wr, Zeq, if_true, if_false, Nat.reduceEqDiff, Nat.reduceAdd, Nat.reduceLeDiff, Nat.reduceSub, and_self, and_true, true_and, reduceIte, reduceCtorEq, eq_self, implies_true, forall_const, false_implies, imp_self, decide_true, decide_false, x14, vbinB_ne]
  refine GO_call ((eqEdgeS_is _ [v1] [u1] x1 ((rSlc rEdge).rdk h1 (by repeat' (first | exact Keep.refl _ | assumption | refine Keep.push' ?_ | refine Keep.set' ?_ ?_ | refine Keep.moved' ?_ ?_ | omega))) ((rSlc rEdge).rdk l1 (by repeat' (first | exact Keep.refl _ | assumption | refine Keep.push' ?_ | refine Keep.set' ?_ ?_ | refine Keep.moved' ?_ ?_ | omega))) (by omega)).mono ?_)
  rintro _ H1 ⟨k1, rfl⟩
  have K1 : Keep H H1 := Keep.trans (by repeat' (first | exact Keep.refl _ | assumption | refine Keep.push' ?_ | refine Keep.set' ?_ ?_ | refine Keep.moved' ?_ ?_ | omega)) k1
  simp (maxSteps := 4000000) (disch := omega) only [Zq, evO, vbox, wr, Zeq, if_true, if_false, Nat.reduceEqDiff, Nat.reduceAdd, Nat.reduceLeDiff, Nat.reduceSub, and_self, and_true, true_and, reduceIte, reduceCtorEq, eq_self, implies_true, forall_const, false_implies, imp_self, decide_true, decide_false, vbinB_ne]
  try exact K1
end Go.Proofs.Ytkadelndmaegdaa.AX
