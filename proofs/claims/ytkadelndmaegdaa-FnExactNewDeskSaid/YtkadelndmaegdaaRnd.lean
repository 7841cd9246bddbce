/- Desks: what the laws' helpers do. No condition beyond each law's own; of the program: the functions' forms. -/
import Derived.Test.YtkadelndmaegdaaXF
import Derived.Test.YtkadelndmaegdaaAXzd
namespace Go.Proofs.Ytkadelndmaegdaa.AX
open Go
set_option maxRecDepth 10000
set_option maxHeartbeats 4000000
set_option linter.unusedSimpArgs false
set_option linter.unusedVariables false
-- Edge
def edgeC (x : Int × Int × Int × Int) : List Value := [.int .i64 x.1, .int .i64 x.2.1, .int .i64 x.2.2.1, .int .i64 x.2.2.2]
theorem edgeC_len (x : Int × Int × Int × Int) : (edgeC x).length = 4 := rfl
def edgeM (x : Int × Int × Int × Int) (k : Nat) : (Int × Int × Int × Int) × Nat := ((((k + 0 : Nat) : Int), ((k + 1 : Nat) : Int), ((k + 2 : Nat) : Int), ((k + 3 : Nat) : Int)), k + 4)
abbrev rEdge : Rep (Int × Int × Int × Int) := flatRep edgeC 4 edgeC_len edgeM
theorem edge_val (x : Int × Int × Int × Int) : rEdge.val (edgeC x) = .agg #[.int .i64 x.1, .int .i64 x.2.1, .int .i64 x.2.2.1, .int .i64 x.2.2.2] := nofl rfl
theorem marB_Edge : MarB rEdge := fun x k => by show k + 4 ≤ _; omega
-- Net
def rNet : Rep (Int × (List (Int × Int × Int × Int))) := rPair rInt (rSlc rEdge)
theorem net_rd {H : Heap} {cs : List Value} {x0 : Int} {x1 : List (Int × Int × Int × Int)} (h : rNet.rd H cs (x0, x1)) : ∃ v1, cs = [.int .i64 x0, v1] ∧ (rSlc rEdge).rd H [v1] x1 := by
  obtain ⟨c0, d0, rfl, h0, h1⟩ := h
  have e0 : c0 = [.int .i64 x0] := h0
  subst e0
  obtain ⟨v1, rfl⟩ := slc_one h1
  exact ⟨v1, rfl, h1⟩
theorem net_rd' {H : Heap} {v1 : Value} {x0 : Int} {x1 : List (Int × Int × Int × Int)} (h1 : (rSlc rEdge).rd H [v1] x1) : rNet.rd H [.int .i64 x0, v1] (x0, x1) := ⟨[.int .i64 x0], _, rfl, rfl, h1⟩
theorem net_own {H : Heap} {cs : List Value} {x0 : Int} {x1 : List (Int × Int × Int × Int)} {F : List Nat} (h : rNet.own H cs (x0, x1) F) : ∃ v1 F1, cs = [.int .i64 x0, v1] ∧ (rSlc rEdge).own H [v1] x1 F1 ∧ F = F1 := by
  obtain ⟨c0, d0, E0, G0, rfl, h0, h1, rfl⟩ := h
  obtain ⟨e0, f0⟩ : c0 = [.int .i64 x0] ∧ E0 = [] := h0
  subst e0 f0
  obtain ⟨v1, rfl⟩ := slc_one ((rSlc rEdge).ownrd h1)
  exact ⟨v1, G0, rfl, h1, by simp⟩
theorem net_own' {H : Heap} {v1 : Value} {x0 : Int} {x1 : List (Int × Int × Int × Int)} {F1 : List Nat} (h1 : (rSlc rEdge).own H [v1] x1 F1) : rNet.own H [.int .i64 x0, v1] (x0, x1) (F1) := by
  have e : F1 = ([] : List Nat) ++ F1 := by simp
  rw [e]
  exact ⟨[.int .i64 x0], _, [], _, rfl, ⟨rfl, rfl⟩, h1, rfl⟩
theorem net_val {v1 : Value} {x0 : Int} : rNet.val [.int .i64 x0, v1] = .agg #[.int .i64 x0, v1] := nofl rfl
theorem net_tot {x0 : Int} {x1 : List (Int × Int × Int × Int)} : rNet.tot (x0, x1) = (rSlc rEdge).tot x1 := by
  show 0 + (rSlc rEdge).tot x1 = _
  omega
theorem marB_Net : MarB rNet := MarB.of (MarC.pair (MarC.leaf (f := .int .i64) (m := fun k => (k : Int)) (hf := oneCell_int)) (MarC.slc marB_Edge)) (by omega)
theorem eqEdge_is : IsEq Try.prog rEdge 78 := by
  intro H cs ds a hrd hrd2 _
  have e : cs = edgeC a := hrd
  have e2 : ds = edgeC a := hrd2
  subst e e2
  refine Run.intro c78 rfl ?_
  simp only [edge_val]
  simp (maxSteps := 4000000) (disch := omega) only [Zq, evO, vbox, wr, Zeq, if_true, if_false, Nat.reduceEqDiff, Nat.reduceAdd, Nat.reduceLeDiff, Nat.reduceSub, and_self, and_true, true_and, reduceIte, reduceCtorEq, eq_self, implies_true, forall_const, false_implies, imp_self, decide_true, decide_false, x78, vbinB_ne]
  try repeat' (first | exact Keep.refl _ | assumption | refine Keep.push' ?_ | refine Keep.set' ?_ ?_ | refine Keep.moved' ?_ ?_ | omega)
theorem elemEdge : Elem rEdge true 4 := ⟨rfl, by omega, fun _ _ => rfl, fun h => by cases h⟩
theorem eqEdgeS_is : IsEq Try.prog (rSlc rEdge) 42 := eqCall_is (agg := true) (sz := 4) c42 elemEdge eqEdge_is
theorem eqNet_is : IsEq Try.prog rNet 14 := by
  rintro H cs ds ⟨x0, x1⟩ hrd hrd2 htot
  obtain ⟨v1, rfl, h1⟩ := net_rd hrd
  obtain ⟨u1, rfl, l1⟩ := net_rd hrd2
  rw [net_tot] at htot
  refine Run.intro c14 rfl ?_
  simp only [net_val]
  simp (maxSteps := 4000000) (disch := omega) only [Zq, evO, vbox, wr, Zeq, if_true, if_false, Nat.reduceEqDiff, Nat.reduceAdd, Nat.reduceLeDiff, Nat.reduceSub, and_self, and_true, true_and, reduceIte, reduceCtorEq, eq_self, implies_true, forall_const, false_implies, imp_self, decide_true, decide_false, x14, vbinB_ne]
  refine GO_call ((eqEdgeS_is _ [v1] [u1] x1 ((rSlc rEdge).rdk h1 (by repeat' (first | exact Keep.refl _ | assumption | refine Keep.push' ?_ | refine Keep.set' ?_ ?_ | refine Keep.moved' ?_ ?_ | omega))) ((rSlc rEdge).rdk l1 (by repeat' (first | exact Keep.refl _ | assumption | refine Keep.push' ?_ | refine Keep.set' ?_ ?_ | refine Keep.moved' ?_ ?_ | omega))) (by omega)).mono ?_)
  rintro _ H1 ⟨k1, rfl⟩
  have K1 : Keep H H1 := Keep.trans (by repeat' (first | exact Keep.refl _ | assumption | refine Keep.push' ?_ | refine Keep.set' ?_ ?_ | refine Keep.moved' ?_ ?_ | omega)) k1
  simp (maxSteps := 4000000) (disch := omega) only [Zq, evO, vbox, wr, Zeq, if_true, if_false, Nat.reduceEqDiff, Nat.reduceAdd, Nat.reduceLeDiff, Nat.reduceSub, and_self, and_true, true_and, reduceIte, reduceCtorEq, eq_self, implies_true, forall_const, false_implies, imp_self, decide_true, decide_false, vbinB_ne]
  try exact K1
def markEdgeSB : X := (.seq (.reg [(.mk (.some 12) (.mov (.tmp 0)) none), (.mk (.some 13) (.mov (.tmp 5)) none), (.mk (.some 14) (.mov (.tmp 1)) none), (.mk (.some 15) (.idx 4 (.tmp 12) (.tmp 13)) none), (.mk (.some 16) (.fad 0 (.tmp 15)) none), (.mk none (.store 1 (.tmp 16) (.tmp 14)) none)]) (.seq (.reg [(.mk (.some 17) (.mov (.tmp 1)) none), (.mk (.some 18) (.bin (.add) (.tmp 17) (.const (.int (.i64) 1))) none), (.mk (.some 1) (.mov (.tmp 18)) none)]) (.seq (.reg [(.mk (.some 19) (.mov (.tmp 0)) none), (.mk (.some 20) (.mov (.tmp 5)) none), (.mk (.some 21) (.mov (.tmp 1)) none), (.mk (.some 22) (.idx 4 (.tmp 19) (.tmp 20)) none), (.mk (.some 23) (.fad 1 (.tmp 22)) none), (.mk none (.store 1 (.tmp 23) (.tmp 21)) none)]) (.seq (.reg [(.mk (.some 24) (.mov (.tmp 1)) none), (.mk (.some 25) (.bin (.add) (.tmp 24) (.const (.int (.i64) 1))) none), (.mk (.some 1) (.mov (.tmp 25)) none)]) (.seq (.reg [(.mk (.some 26) (.mov (.tmp 0)) none), (.mk (.some 27) (.mov (.tmp 5)) none), (.mk (.some 28) (.mov (.tmp 1)) none), (.mk (.some 29) (.idx 4 (.tmp 26) (.tmp 27)) none), (.mk (.some 30) (.fad 2 (.tmp 29)) none), (.mk none (.store 1 (.tmp 30) (.tmp 28)) none)]) (.seq (.reg [(.mk (.some 31) (.mov (.tmp 1)) none), (.mk (.some 32) (.bin (.add) (.tmp 31) (.const (.int (.i64) 1))) none), (.mk (.some 1) (.mov (.tmp 32)) none)]) (.seq (.reg [(.mk (.some 33) (.mov (.tmp 0)) none), (.mk (.some 34) (.mov (.tmp 5)) none), (.mk (.some 35) (.mov (.tmp 1)) none), (.mk (.some 36) (.idx 4 (.tmp 33) (.tmp 34)) none), (.mk (.some 37) (.fad 3 (.tmp 36)) none), (.mk none (.store 1 (.tmp 37) (.tmp 35)) none)]) (.reg [(.mk (.some 38) (.mov (.tmp 1)) none), (.mk (.some 39) (.bin (.add) (.tmp 38) (.const (.int (.i64) 1))) none), (.mk (.some 1) (.mov (.tmp 39)) none)]))))))))
theorem markEdgeSB_is : BMark Try.prog rEdge markEdgeSB := by
  rintro p i n o k P0 Q0 row ⟨x0, x1, x2, x3⟩ F ks Q T H t0 t1 t5 hi hP hp hg hown hnd hpF hk K
  have t0 : T 0 = .slice (some ⟨p, o, none⟩) n 4 := t0
  have hP : P0.length = o + i * 4 := hP
  obtain ⟨e0, e1⟩ : row = [.int .i64 x0, .int .i64 x1, .int .i64 x2, .int .i64 x3] ∧ F = [] := hown
  subst e0 e1
  have s0 : ∀ H1 : Heap, stO H1 1 p (o + i * 4) (.int .i64 ((k : Nat) : Int)) (some (.own (mid P0 [.int .i64 x0, .int .i64 x1, .int .i64 x2, .int .i64 x3] Q0))) = some (undef, H1.set p (mid P0 [.int .i64 ((k : Nat) : Int), .int .i64 x1, .int .i64 x2, .int .i64 x3] Q0)) := fun H1 => by exact stO_mid (B := [.int .i64 x0, .int .i64 x1, .int .i64 x2, .int .i64 x3]) (o := 0) rfl hP (by simp)
  have s1 : ∀ H1 : Heap, stO H1 1 p (o + (i * 4 + 1)) (.int .i64 (((k + 1) : Nat) : Int)) (some (.own (mid P0 [.int .i64 ((k : Nat) : Int), .int .i64 x1, .int .i64 x2, .int .i64 x3] Q0))) = some (undef, H1.set p (mid P0 [.int .i64 ((k : Nat) : Int), .int .i64 (((k + 1) : Nat) : Int), .int .i64 x2, .int .i64 x3] Q0)) := fun H1 => by rw [← Nat.add_assoc]; exact stO_mid (B := [.int .i64 ((k : Nat) : Int), .int .i64 x1, .int .i64 x2, .int .i64 x3]) (o := 1) rfl hP (by simp)
  have s2 : ∀ H1 : Heap, stO H1 1 p (o + (i * 4 + 2)) (.int .i64 ((((k + 1) + 1) : Nat) : Int)) (some (.own (mid P0 [.int .i64 ((k : Nat) : Int), .int .i64 (((k + 1) : Nat) : Int), .int .i64 x2, .int .i64 x3] Q0))) = some (undef, H1.set p (mid P0 [.int .i64 ((k : Nat) : Int), .int .i64 (((k + 1) : Nat) : Int), .int .i64 ((((k + 1) + 1) : Nat) : Int), .int .i64 x3] Q0)) := fun H1 => by rw [← Nat.add_assoc]; exact stO_mid (B := [.int .i64 ((k : Nat) : Int), .int .i64 (((k + 1) : Nat) : Int), .int .i64 x2, .int .i64 x3]) (o := 2) rfl hP (by simp)
  have s3 : ∀ H1 : Heap, stO H1 1 p (o + (i * 4 + 3)) (.int .i64 (((((k + 1) + 1) + 1) : Nat) : Int)) (some (.own (mid P0 [.int .i64 ((k : Nat) : Int), .int .i64 (((k + 1) : Nat) : Int), .int .i64 ((((k + 1) + 1) : Nat) : Int), .int .i64 x3] Q0))) = some (undef, H1.set p (mid P0 [.int .i64 ((k : Nat) : Int), .int .i64 (((k + 1) : Nat) : Int), .int .i64 ((((k + 1) + 1) : Nat) : Int), .int .i64 (((((k + 1) + 1) + 1) : Nat) : Int)] Q0)) := fun H1 => by rw [← Nat.add_assoc]; exact stO_mid (B := [.int .i64 ((k : Nat) : Int), .int .i64 (((k + 1) : Nat) : Int), .int .i64 ((((k + 1) + 1) : Nat) : Int), .int .i64 x3]) (o := 3) rfl hP (by simp)
  have C0 : Chg (p :: ([])) H H := Chg.refl _ _
  simp (maxSteps := 4000000) (disch := omega) only [Zq, evO, vbox, wr, Zeq, if_true, if_false, Nat.reduceEqDiff, Nat.reduceAdd, Nat.reduceLeDiff, Nat.reduceSub, and_self, and_true, true_and, reduceIte, reduceCtorEq, eq_self, implies_true, forall_const, false_implies, imp_self, decide_true, decide_false, markEdgeSB, t0, t1, t5, Zfo hi, Zfo, s0, s1, s2, s3, hg]
  refine K _ _ [.int .i64 ((k : Nat) : Int), .int .i64 (((k + 1) : Nat) : Int), .int .i64 ((((k + 1) + 1) : Nat) : Int), .int .i64 (((((k + 1) + 1) + 1) : Nat) : Int)] ?_ ?_ ?_ ?_ ?_ ⟨rfl, rfl⟩
  · simp (maxSteps := 4000000) (disch := omega) only [Zq, evO, vbox, wr, Zeq, if_true, if_false, Nat.reduceEqDiff, Nat.reduceAdd, Nat.reduceLeDiff, Nat.reduceSub, and_self, and_true, true_and, reduceIte, reduceCtorEq, eq_self, implies_true, forall_const, false_implies, imp_self, decide_true, decide_false, t0]
  · simp (maxSteps := 4000000) (disch := omega) only [Zq, evO, vbox, wr, Zeq, if_true, if_false, Nat.reduceEqDiff, Nat.reduceAdd, Nat.reduceLeDiff, Nat.reduceSub, and_self, and_true, true_and, reduceIte, reduceCtorEq, eq_self, implies_true, forall_const, false_implies, imp_self, decide_true, decide_false, t5]
  · simp (maxSteps := 4000000) (disch := omega) only [Zq, evO, vbox, wr, Zeq, if_true, if_false, Nat.reduceEqDiff, Nat.reduceAdd, Nat.reduceLeDiff, Nat.reduceSub, and_self, and_true, true_and, reduceIte, reduceCtorEq, eq_self, implies_true, forall_const, false_implies, imp_self, decide_true, decide_false, t1]
    try rfl
  · repeat' (first | exact Chg.refl _ _ | refine Chg.trans ?_ (Chg.set (by simp)))
  · simp only [Zbi, if_true]
theorem markEdgeS_is : IsMark Try.prog (rSlc rEdge) (rSlc rEdge).mar 47 := markSlc_is (A := 40) (body := markEdgeSB) c47 marB_Edge markEdgeSB_is
def mNet (x : Int × (List (Int × Int × Int × Int))) (k : Nat) : (Int × (List (Int × Int × Int × Int))) × Nat := ((x.1, ((rSlc rEdge).mar x.2 k).1), ((rSlc rEdge).mar x.2 k).2)
theorem markNet_is : IsMark Try.prog rNet mNet 18 := by
  rintro H cs ⟨x0, x1⟩ F k hown hnd hk
  obtain ⟨v1, F1, rfl, o1, hF⟩ := net_own hown
  subst F
  have nd1 := hnd
  have lt1 := (rSlc rEdge).ownlt o1
  rw [net_tot] at hk
  refine Run.intro c18 rfl ?_
  simp only [net_val]
  simp (maxSteps := 4000000) (disch := omega) only [Zq, evO, vbox, wr, Zeq, if_true, if_false, Nat.reduceEqDiff, Nat.reduceAdd, Nat.reduceLeDiff, Nat.reduceSub, and_self, and_true, true_and, reduceIte, reduceCtorEq, eq_self, implies_true, forall_const, false_implies, imp_self, decide_true, decide_false, x18]
  generalize hG : H.push [.int .i64 x0, v1] = H0
  have K0 : Keep H H0 := by rw [← hG]; exact Keep.push _ _
  have g0 : H0.get H.nxt = some (.own [.int .i64 x0, v1]) := by rw [← hG, push_get', if_pos rfl]
  have n0 : H.nxt < H0.nxt := by rw [← hG, Zbg]; omega
  have o1 := (rSlc rEdge).ownKeep o1 K0
  have C0 : Chg (F1) H H0 := K0.chg
  have b1 := mar_le marB_Edge x1 (k)
  refine GO_call ((markEdgeS_is H0 [v1] x1 F1 (k) o1 nd1 (by omega)).mono ?_)
  rintro _ H1 ⟨c1, o1, rfl⟩
  have n1 := c1.nxt
  have C1 := C0.trans (c1.mono (fun a ha => by exact ha))
  have g1 := (c1.get H.nxt (by omega) (fun hm => by have := lt1 _ hm; omega)).trans g0
  simp (maxSteps := 4000000) (disch := omega) only [Zq, evO, vbox, wr, Zeq, if_true, if_false, Nat.reduceEqDiff, Nat.reduceAdd, Nat.reduceLeDiff, Nat.reduceSub, and_self, and_true, true_and, reduceIte, reduceCtorEq, eq_self, implies_true, forall_const, false_implies, imp_self, decide_true, decide_false, g1]
  exact ⟨C1, net_own' o1, rfl⟩
def heldEdgeSB : X := (.seq (.seq (.reg [(.mk (.some 12) (.mov (.tmp 0)) none), (.mk (.some 13) (.mov (.tmp 5)) none), (.mk (.some 14) (.idx 4 (.tmp 12) (.tmp 13)) none), (.mk (.some 15) (.fad 0 (.tmp 14)) none), (.mk (.some 16) (.load1 (.tmp 15)) none), (.mk (.some 17) (.mov (.tmp 1)) none), (.mk (.some 18) (.bin (.neq) (.tmp 16) (.tmp 17)) none)]) (.cond (.tmp 18) (.seq (.reg [(.mk (.some 4) (.mov (.const (.int (.i64) (-1)))) none)]) (.ret)) (.skip))) (.seq (.reg [(.mk (.some 19) (.mov (.tmp 1)) none), (.mk (.some 20) (.bin (.add) (.tmp 19) (.const (.int (.i64) 1))) none), (.mk (.some 1) (.mov (.tmp 20)) none)]) (.seq (.seq (.reg [(.mk (.some 21) (.mov (.tmp 0)) none), (.mk (.some 22) (.mov (.tmp 5)) none), (.mk (.some 23) (.idx 4 (.tmp 21) (.tmp 22)) none), (.mk (.some 24) (.fad 1 (.tmp 23)) none), (.mk (.some 25) (.load1 (.tmp 24)) none), (.mk (.some 26) (.mov (.tmp 1)) none), (.mk (.some 27) (.bin (.neq) (.tmp 25) (.tmp 26)) none)]) (.cond (.tmp 27) (.seq (.reg [(.mk (.some 4) (.mov (.const (.int (.i64) (-1)))) none)]) (.ret)) (.skip))) (.seq (.reg [(.mk (.some 28) (.mov (.tmp 1)) none), (.mk (.some 29) (.bin (.add) (.tmp 28) (.const (.int (.i64) 1))) none), (.mk (.some 1) (.mov (.tmp 29)) none)]) (.seq (.seq (.reg [(.mk (.some 30) (.mov (.tmp 0)) none), (.mk (.some 31) (.mov (.tmp 5)) none), (.mk (.some 32) (.idx 4 (.tmp 30) (.tmp 31)) none), (.mk (.some 33) (.fad 2 (.tmp 32)) none), (.mk (.some 34) (.load1 (.tmp 33)) none), (.mk (.some 35) (.mov (.tmp 1)) none), (.mk (.some 36) (.bin (.neq) (.tmp 34) (.tmp 35)) none)]) (.cond (.tmp 36) (.seq (.reg [(.mk (.some 4) (.mov (.const (.int (.i64) (-1)))) none)]) (.ret)) (.skip))) (.seq (.reg [(.mk (.some 37) (.mov (.tmp 1)) none), (.mk (.some 38) (.bin (.add) (.tmp 37) (.const (.int (.i64) 1))) none), (.mk (.some 1) (.mov (.tmp 38)) none)]) (.seq (.seq (.reg [(.mk (.some 39) (.mov (.tmp 0)) none), (.mk (.some 40) (.mov (.tmp 5)) none), (.mk (.some 41) (.idx 4 (.tmp 39) (.tmp 40)) none), (.mk (.some 42) (.fad 3 (.tmp 41)) none), (.mk (.some 43) (.load1 (.tmp 42)) none), (.mk (.some 44) (.mov (.tmp 1)) none), (.mk (.some 45) (.bin (.neq) (.tmp 43) (.tmp 44)) none)]) (.cond (.tmp 45) (.seq (.reg [(.mk (.some 4) (.mov (.const (.int (.i64) (-1)))) none)]) (.ret)) (.skip))) (.reg [(.mk (.some 46) (.mov (.tmp 1)) none), (.mk (.some 47) (.bin (.add) (.tmp 46) (.const (.int (.i64) 1))) none), (.mk (.some 1) (.mov (.tmp 47)) none)]))))))))
theorem heldEdgeSB_is : BHeld Try.prog rEdge heldEdgeSB := by
  rintro v i n k cs ⟨x0, x1, x2, x3⟩ ks Q T H t0 t1 t5 hi hs hrd hk K
  have hs4 : Sl H v 4 n cs := hs
  have hrow : (cs.drop (i * 4)).take 4 = [.int .i64 ((k + 0 : Nat) : Int), .int .i64 ((k + 1 : Nat) : Int), .int .i64 ((k + 2 : Nat) : Int), .int .i64 ((k + 3 : Nat) : Int)] := hrd
  have q0 : cs[i * 4 + 0]? = some (.int .i64 ((k + 0 : Nat) : Int)) := row_get hrow (by omega) rfl
  have l0_0 := Sl.ld hs4 hi q0
  have q1 : cs[i * 4 + 1]? = some (.int .i64 ((k + 1 : Nat) : Int)) := row_get hrow (by omega) rfl
  have l1_0 := Sl.ld hs4 hi q1
  have q2 : cs[i * 4 + 2]? = some (.int .i64 ((k + 2 : Nat) : Int)) := row_get hrow (by omega) rfl
  have l2_0 := Sl.ld hs4 hi q2
  have q3 : cs[i * 4 + 3]? = some (.int .i64 ((k + 3 : Nat) : Int)) := row_get hrow (by omega) rfl
  have l3_0 := Sl.ld hs4 hi q3
  have K0 : Keep H H := Keep.refl H
  simp (maxSteps := 4000000) (disch := omega) only [Zq, evO, vbox, wr, Zeq, if_true, if_false, Nat.reduceEqDiff, Nat.reduceAdd, Nat.reduceLeDiff, Nat.reduceSub, and_self, and_true, true_and, reduceIte, reduceCtorEq, eq_self, implies_true, forall_const, false_implies, imp_self, decide_true, decide_false, heldEdgeSB, t0, t1, t5, Sl.len_ hs4, Sl.idx hs4 hi, Sl.fad hs4 hi, l0_0, l1_0, l2_0, l3_0]
  refine K _ _ ?_ ?_ ?_ K0
  · simp (maxSteps := 4000000) (disch := omega) only [Zq, evO, vbox, wr, Zeq, if_true, if_false, Nat.reduceEqDiff, Nat.reduceAdd, Nat.reduceLeDiff, Nat.reduceSub, and_self, and_true, true_and, reduceIte, reduceCtorEq, eq_self, implies_true, forall_const, false_implies, imp_self, decide_true, decide_false, t0]
  · simp (maxSteps := 4000000) (disch := omega) only [Zq, evO, vbox, wr, Zeq, if_true, if_false, Nat.reduceEqDiff, Nat.reduceAdd, Nat.reduceLeDiff, Nat.reduceSub, and_self, and_true, true_and, reduceIte, reduceCtorEq, eq_self, implies_true, forall_const, false_implies, imp_self, decide_true, decide_false, t5]
  · simp (maxSteps := 4000000) (disch := omega) only [Zq, evO, vbox, wr, Zeq, if_true, if_false, Nat.reduceEqDiff, Nat.reduceAdd, Nat.reduceLeDiff, Nat.reduceSub, and_self, and_true, true_and, reduceIte, reduceCtorEq, eq_self, implies_true, forall_const, false_implies, imp_self, decide_true, decide_false, t1]
    try rfl
theorem heldEdgeS_is : IsHeld Try.prog (rSlc rEdge) (rSlc rEdge).mar 53 := heldSlc_is (A := 48) (body := heldEdgeSB) c53 marB_Edge heldEdgeSB_is
theorem heldNet_is : IsHeld Try.prog rNet mNet 22 := by
  rintro H cs ⟨x0, x1⟩ k hrd hk
  obtain ⟨v1, rfl, h1⟩ := net_rd hrd
  rw [net_tot] at hk
  refine Run.intro c22 rfl ?_
  simp only [net_val]
  simp (maxSteps := 4000000) (disch := omega) only [Zq, evO, vbox, wr, Zeq, if_true, if_false, Nat.reduceEqDiff, Nat.reduceAdd, Nat.reduceLeDiff, Nat.reduceSub, and_self, and_true, true_and, reduceIte, reduceCtorEq, eq_self, implies_true, forall_const, false_implies, imp_self, decide_true, decide_false, x22]
  generalize hG : H.push [.int .i64 x0, v1] = H0
  have K0 : Keep H H0 := by rw [← hG]; exact Keep.push _ _
  have g0 : H0.get H.nxt = some (.own [.int .i64 x0, v1]) := by rw [← hG, push_get', if_pos rfl]
  have n0 : H.nxt < H0.nxt := by rw [← hG, Zbg]; omega
  have b1 := mar_le marB_Edge x1 (k)
  refine GO_call ((heldEdgeS_is H0 [v1] x1 (k) ((rSlc rEdge).rdk h1 K0) (by omega)).mono ?_)
  rintro _ H1 ⟨k1, rfl⟩
  have n1 := k1.nxt
  have K1 := K0.trans k1
  have g1 := (k1.get H.nxt (by omega)).trans g0
  simp (maxSteps := 4000000) (disch := omega) only [Zq, evO, vbox, wr, Zeq, if_true, if_false, Nat.reduceEqDiff, Nat.reduceAdd, Nat.reduceLeDiff, Nat.reduceSub, and_self, and_true, true_and, reduceIte, reduceCtorEq, eq_self, implies_true, forall_const, false_implies, imp_self, decide_true, decide_false, g1]
  exact ⟨K1, rfl⟩
-- Booking
def bookingC (x : Int × Int × Int × Int) : List Value := [.int .i64 x.1, .int .i64 x.2.1, .int .i64 x.2.2.1, .int .i64 x.2.2.2]
theorem bookingC_len (x : Int × Int × Int × Int) : (bookingC x).length = 4 := rfl
def bookingM (x : Int × Int × Int × Int) (k : Nat) : (Int × Int × Int × Int) × Nat := ((((k + 0 : Nat) : Int), ((k + 1 : Nat) : Int), ((k + 2 : Nat) : Int), ((k + 3 : Nat) : Int)), k + 4)
abbrev rBooking : Rep (Int × Int × Int × Int) := flatRep bookingC 4 bookingC_len bookingM
theorem booking_val (x : Int × Int × Int × Int) : rBooking.val (bookingC x) = .agg #[.int .i64 x.1, .int .i64 x.2.1, .int .i64 x.2.2.1, .int .i64 x.2.2.2] := nofl rfl
theorem marB_Booking : MarB rBooking := fun x k => by show k + 4 ≤ _; omega
-- Train
def rTrain : Rep (Int × Int × (List (Int × Int × Int × Int))) := rPair rInt (rPair rInt (rSlc rBooking))
theorem train_rd {H : Heap} {cs : List Value} {x0 : Int} {x1 : Int} {x2 : List (Int × Int × Int × Int)} (h : rTrain.rd H cs (x0, x1, x2)) : ∃ v2, cs = [.int .i64 x0, .int .i64 x1, v2] ∧ (rSlc rBooking).rd H [v2] x2 := by
  obtain ⟨c0, d0, rfl, h0, c1, d1, rfl, h1, h2⟩ := h
  have e0 : c0 = [.int .i64 x0] := h0
  subst e0
  have e1 : c1 = [.int .i64 x1] := h1
  subst e1
  obtain ⟨v2, rfl⟩ := slc_one h2
  exact ⟨v2, rfl, h2⟩
theorem train_rd' {H : Heap} {v2 : Value} {x0 : Int} {x1 : Int} {x2 : List (Int × Int × Int × Int)} (h2 : (rSlc rBooking).rd H [v2] x2) : rTrain.rd H [.int .i64 x0, .int .i64 x1, v2] (x0, x1, x2) := ⟨[.int .i64 x0], _, rfl, rfl, ⟨[.int .i64 x1], _, rfl, rfl, h2⟩⟩
theorem train_own {H : Heap} {cs : List Value} {x0 : Int} {x1 : Int} {x2 : List (Int × Int × Int × Int)} {F : List Nat} (h : rTrain.own H cs (x0, x1, x2) F) : ∃ v2 F2, cs = [.int .i64 x0, .int .i64 x1, v2] ∧ (rSlc rBooking).own H [v2] x2 F2 ∧ F = F2 := by
  obtain ⟨c0, d0, E0, G0, rfl, h0, ⟨c1, d1, E1, G1, rfl, h1, h2, rfl⟩, rfl⟩ := h
  obtain ⟨e0, f0⟩ : c0 = [.int .i64 x0] ∧ E0 = [] := h0
  subst e0 f0
  obtain ⟨e1, f1⟩ : c1 = [.int .i64 x1] ∧ E1 = [] := h1
  subst e1 f1
  obtain ⟨v2, rfl⟩ := slc_one ((rSlc rBooking).ownrd h2)
  exact ⟨v2, G1, rfl, h2, by simp⟩
theorem train_own' {H : Heap} {v2 : Value} {x0 : Int} {x1 : Int} {x2 : List (Int × Int × Int × Int)} {F2 : List Nat} (h2 : (rSlc rBooking).own H [v2] x2 F2) : rTrain.own H [.int .i64 x0, .int .i64 x1, v2] (x0, x1, x2) (F2) := by
  have e : F2 = ([] : List Nat) ++ (([] : List Nat) ++ F2) := by simp
  rw [e]
  exact ⟨[.int .i64 x0], _, [], _, rfl, ⟨rfl, rfl⟩, ⟨[.int .i64 x1], _, [], _, rfl, ⟨rfl, rfl⟩, h2, rfl⟩, rfl⟩
theorem train_val {v2 : Value} {x0 : Int} {x1 : Int} : rTrain.val [.int .i64 x0, .int .i64 x1, v2] = .agg #[.int .i64 x0, .int .i64 x1, v2] := nofl rfl
theorem train_tot {x0 : Int} {x1 : Int} {x2 : List (Int × Int × Int × Int)} : rTrain.tot (x0, x1, x2) = (rSlc rBooking).tot x2 := by
  show 0 + (0 + (rSlc rBooking).tot x2) = _
  omega
theorem marB_Train : MarB rTrain := MarB.of (MarC.pair (MarC.leaf (f := .int .i64) (m := fun k => (k : Int)) (hf := oneCell_int)) (MarC.pair (MarC.leaf (f := .int .i64) (m := fun k => (k : Int)) (hf := oneCell_int)) (MarC.slc marB_Booking))) (by omega)
theorem eqBooking_is : IsEq Try.prog rBooking 80 := by
  intro H cs ds a hrd hrd2 _
  have e : cs = bookingC a := hrd
  have e2 : ds = bookingC a := hrd2
  subst e e2
  refine Run.intro c80 rfl ?_
  simp only [booking_val]
  simp (maxSteps := 4000000) (disch := omega) only [Zq, evO, vbox, wr, Zeq, if_true, if_false, Nat.reduceEqDiff, Nat.reduceAdd, Nat.reduceLeDiff, Nat.reduceSub, and_self, and_true, true_and, reduceIte, reduceCtorEq, eq_self, implies_true, forall_const, false_implies, imp_self, decide_true, decide_false, x80, vbinB_ne]
  try repeat' (first | exact Keep.refl _ | assumption | refine Keep.push' ?_ | refine Keep.set' ?_ ?_ | refine Keep.moved' ?_ ?_ | omega)
theorem elemBooking : Elem rBooking true 4 := ⟨rfl, by omega, fun _ _ => rfl, fun h => by cases h⟩
theorem eqBookingS_is : IsEq Try.prog (rSlc rBooking) 44 := eqCall_is (agg := true) (sz := 4) c44 elemBooking eqBooking_is
theorem eqTrain_is : IsEq Try.prog rTrain 16 := by
  rintro H cs ds ⟨x0, x1, x2⟩ hrd hrd2 htot
  obtain ⟨v2, rfl, h2⟩ := train_rd hrd
  obtain ⟨u2, rfl, l2⟩ := train_rd hrd2
  rw [train_tot] at htot
  refine Run.intro c16 rfl ?_
  simp only [train_val]
  simp (maxSteps := 4000000) (disch := omega) only [Zq, evO, vbox, wr, Zeq, if_true, if_false, Nat.reduceEqDiff, Nat.reduceAdd, Nat.reduceLeDiff, Nat.reduceSub, and_self, and_true, true_and, reduceIte, reduceCtorEq, eq_self, implies_true, forall_const, false_implies, imp_self, decide_true, decide_false, x16, vbinB_ne]
  refine GO_call ((eqBookingS_is _ [v2] [u2] x2 ((rSlc rBooking).rdk h2 (by repeat' (first | exact Keep.refl _ | assumption | refine Keep.push' ?_ | refine Keep.set' ?_ ?_ | refine Keep.moved' ?_ ?_ | omega))) ((rSlc rBooking).rdk l2 (by repeat' (first | exact Keep.refl _ | assumption | refine Keep.push' ?_ | refine Keep.set' ?_ ?_ | refine Keep.moved' ?_ ?_ | omega))) (by omega)).mono ?_)
  rintro _ H1 ⟨k1, rfl⟩
  have K1 : Keep H H1 := Keep.trans (by repeat' (first | exact Keep.refl _ | assumption | refine Keep.push' ?_ | refine Keep.set' ?_ ?_ | refine Keep.moved' ?_ ?_ | omega)) k1
  simp (maxSteps := 4000000) (disch := omega) only [Zq, evO, vbox, wr, Zeq, if_true, if_false, Nat.reduceEqDiff, Nat.reduceAdd, Nat.reduceLeDiff, Nat.reduceSub, and_self, and_true, true_and, reduceIte, reduceCtorEq, eq_self, implies_true, forall_const, false_implies, imp_self, decide_true, decide_false, vbinB_ne]
  try exact K1
def markBookingSB : X := (.seq (.reg [(.mk (.some 12) (.mov (.tmp 0)) none), (.mk (.some 13) (.mov (.tmp 5)) none), (.mk (.some 14) (.mov (.tmp 1)) none), (.mk (.some 15) (.idx 4 (.tmp 12) (.tmp 13)) none), (.mk (.some 16) (.fad 0 (.tmp 15)) none), (.mk none (.store 1 (.tmp 16) (.tmp 14)) none)]) (.seq (.reg [(.mk (.some 17) (.mov (.tmp 1)) none), (.mk (.some 18) (.bin (.add) (.tmp 17) (.const (.int (.i64) 1))) none), (.mk (.some 1) (.mov (.tmp 18)) none)]) (.seq (.reg [(.mk (.some 19) (.mov (.tmp 0)) none), (.mk (.some 20) (.mov (.tmp 5)) none), (.mk (.some 21) (.mov (.tmp 1)) none), (.mk (.some 22) (.idx 4 (.tmp 19) (.tmp 20)) none), (.mk (.some 23) (.fad 1 (.tmp 22)) none), (.mk none (.store 1 (.tmp 23) (.tmp 21)) none)]) (.seq (.reg [(.mk (.some 24) (.mov (.tmp 1)) none), (.mk (.some 25) (.bin (.add) (.tmp 24) (.const (.int (.i64) 1))) none), (.mk (.some 1) (.mov (.tmp 25)) none)]) (.seq (.reg [(.mk (.some 26) (.mov (.tmp 0)) none), (.mk (.some 27) (.mov (.tmp 5)) none), (.mk (.some 28) (.mov (.tmp 1)) none), (.mk (.some 29) (.idx 4 (.tmp 26) (.tmp 27)) none), (.mk (.some 30) (.fad 2 (.tmp 29)) none), (.mk none (.store 1 (.tmp 30) (.tmp 28)) none)]) (.seq (.reg [(.mk (.some 31) (.mov (.tmp 1)) none), (.mk (.some 32) (.bin (.add) (.tmp 31) (.const (.int (.i64) 1))) none), (.mk (.some 1) (.mov (.tmp 32)) none)]) (.seq (.reg [(.mk (.some 33) (.mov (.tmp 0)) none), (.mk (.some 34) (.mov (.tmp 5)) none), (.mk (.some 35) (.mov (.tmp 1)) none), (.mk (.some 36) (.idx 4 (.tmp 33) (.tmp 34)) none), (.mk (.some 37) (.fad 3 (.tmp 36)) none), (.mk none (.store 1 (.tmp 37) (.tmp 35)) none)]) (.reg [(.mk (.some 38) (.mov (.tmp 1)) none), (.mk (.some 39) (.bin (.add) (.tmp 38) (.const (.int (.i64) 1))) none), (.mk (.some 1) (.mov (.tmp 39)) none)]))))))))
theorem markBookingSB_is : BMark Try.prog rBooking markBookingSB := by
  rintro p i n o k P0 Q0 row ⟨x0, x1, x2, x3⟩ F ks Q T H t0 t1 t5 hi hP hp hg hown hnd hpF hk K
  have t0 : T 0 = .slice (some ⟨p, o, none⟩) n 4 := t0
  have hP : P0.length = o + i * 4 := hP
  obtain ⟨e0, e1⟩ : row = [.int .i64 x0, .int .i64 x1, .int .i64 x2, .int .i64 x3] ∧ F = [] := hown
  subst e0 e1
  have s0 : ∀ H1 : Heap, stO H1 1 p (o + i * 4) (.int .i64 ((k : Nat) : Int)) (some (.own (mid P0 [.int .i64 x0, .int .i64 x1, .int .i64 x2, .int .i64 x3] Q0))) = some (undef, H1.set p (mid P0 [.int .i64 ((k : Nat) : Int), .int .i64 x1, .int .i64 x2, .int .i64 x3] Q0)) := fun H1 => by exact stO_mid (B := [.int .i64 x0, .int .i64 x1, .int .i64 x2, .int .i64 x3]) (o := 0) rfl hP (by simp)
  have s1 : ∀ H1 : Heap, stO H1 1 p (o + (i * 4 + 1)) (.int .i64 (((k + 1) : Nat) : Int)) (some (.own (mid P0 [.int .i64 ((k : Nat) : Int), .int .i64 x1, .int .i64 x2, .int .i64 x3] Q0))) = some (undef, H1.set p (mid P0 [.int .i64 ((k : Nat) : Int), .int .i64 (((k + 1) : Nat) : Int), .int .i64 x2, .int .i64 x3] Q0)) := fun H1 => by rw [← Nat.add_assoc]; exact stO_mid (B := [.int .i64 ((k : Nat) : Int), .int .i64 x1, .int .i64 x2, .int .i64 x3]) (o := 1) rfl hP (by simp)
  have s2 : ∀ H1 : Heap, stO H1 1 p (o + (i * 4 + 2)) (.int .i64 ((((k + 1) + 1) : Nat) : Int)) (some (.own (mid P0 [.int .i64 ((k : Nat) : Int), .int .i64 (((k + 1) : Nat) : Int), .int .i64 x2, .int .i64 x3] Q0))) = some (undef, H1.set p (mid P0 [.int .i64 ((k : Nat) : Int), .int .i64 (((k + 1) : Nat) : Int), .int .i64 ((((k + 1) + 1) : Nat) : Int), .int .i64 x3] Q0)) := fun H1 => by rw [← Nat.add_assoc]; exact stO_mid (B := [.int .i64 ((k : Nat) : Int), .int .i64 (((k + 1) : Nat) : Int), .int .i64 x2, .int .i64 x3]) (o := 2) rfl hP (by simp)
  have s3 : ∀ H1 : Heap, stO H1 1 p (o + (i * 4 + 3)) (.int .i64 (((((k + 1) + 1) + 1) : Nat) : Int)) (some (.own (mid P0 [.int .i64 ((k : Nat) : Int), .int .i64 (((k + 1) : Nat) : Int), .int .i64 ((((k + 1) + 1) : Nat) : Int), .int .i64 x3] Q0))) = some (undef, H1.set p (mid P0 [.int .i64 ((k : Nat) : Int), .int .i64 (((k + 1) : Nat) : Int), .int .i64 ((((k + 1) + 1) : Nat) : Int), .int .i64 (((((k + 1) + 1) + 1) : Nat) : Int)] Q0)) := fun H1 => by rw [← Nat.add_assoc]; exact stO_mid (B := [.int .i64 ((k : Nat) : Int), .int .i64 (((k + 1) : Nat) : Int), .int .i64 ((((k + 1) + 1) : Nat) : Int), .int .i64 x3]) (o := 3) rfl hP (by simp)
  have C0 : Chg (p :: ([])) H H := Chg.refl _ _
  simp (maxSteps := 4000000) (disch := omega) only [Zq, evO, vbox, wr, Zeq, if_true, if_false, Nat.reduceEqDiff, Nat.reduceAdd, Nat.reduceLeDiff, Nat.reduceSub, and_self, and_true, true_and, reduceIte, reduceCtorEq, eq_self, implies_true, forall_const, false_implies, imp_self, decide_true, decide_false, markBookingSB, t0, t1, t5, Zfo hi, Zfo, s0, s1, s2, s3, hg]
  refine K _ _ [.int .i64 ((k : Nat) : Int), .int .i64 (((k + 1) : Nat) : Int), .int .i64 ((((k + 1) + 1) : Nat) : Int), .int .i64 (((((k + 1) + 1) + 1) : Nat) : Int)] ?_ ?_ ?_ ?_ ?_ ⟨rfl, rfl⟩
  · simp (maxSteps := 4000000) (disch := omega) only [Zq, evO, vbox, wr, Zeq, if_true, if_false, Nat.reduceEqDiff, Nat.reduceAdd, Nat.reduceLeDiff, Nat.reduceSub, and_self, and_true, true_and, reduceIte, reduceCtorEq, eq_self, implies_true, forall_const, false_implies, imp_self, decide_true, decide_false, t0]
  · simp (maxSteps := 4000000) (disch := omega) only [Zq, evO, vbox, wr, Zeq, if_true, if_false, Nat.reduceEqDiff, Nat.reduceAdd, Nat.reduceLeDiff, Nat.reduceSub, and_self, and_true, true_and, reduceIte, reduceCtorEq, eq_self, implies_true, forall_const, false_implies, imp_self, decide_true, decide_false, t5]
  · simp (maxSteps := 4000000) (disch := omega) only [Zq, evO, vbox, wr, Zeq, if_true, if_false, Nat.reduceEqDiff, Nat.reduceAdd, Nat.reduceLeDiff, Nat.reduceSub, and_self, and_true, true_and, reduceIte, reduceCtorEq, eq_self, implies_true, forall_const, false_implies, imp_self, decide_true, decide_false, t1]
    try rfl
  · repeat' (first | exact Chg.refl _ _ | refine Chg.trans ?_ (Chg.set (by simp)))
  · simp only [Zbi, if_true]
theorem markBookingS_is : IsMark Try.prog (rSlc rBooking) (rSlc rBooking).mar 50 := markSlc_is (A := 40) (body := markBookingSB) c50 marB_Booking markBookingSB_is
def mTrain (x : Int × Int × (List (Int × Int × Int × Int))) (k : Nat) : (Int × Int × (List (Int × Int × Int × Int))) × Nat := ((x.1, x.2.1, ((rSlc rBooking).mar x.2.2 k).1), ((rSlc rBooking).mar x.2.2 k).2)
theorem markTrain_is : IsMark Try.prog rTrain mTrain 20 := by
  rintro H cs ⟨x0, x1, x2⟩ F k hown hnd hk
  obtain ⟨v2, F2, rfl, o2, hF⟩ := train_own hown
  subst F
  have nd2 := hnd
  have lt2 := (rSlc rBooking).ownlt o2
  rw [train_tot] at hk
  refine Run.intro c20 rfl ?_
  simp only [train_val]
  simp (maxSteps := 4000000) (disch := omega) only [Zq, evO, vbox, wr, Zeq, if_true, if_false, Nat.reduceEqDiff, Nat.reduceAdd, Nat.reduceLeDiff, Nat.reduceSub, and_self, and_true, true_and, reduceIte, reduceCtorEq, eq_self, implies_true, forall_const, false_implies, imp_self, decide_true, decide_false, x20]
  generalize hG : H.push [.int .i64 x0, .int .i64 x1, v2] = H0
  have K0 : Keep H H0 := by rw [← hG]; exact Keep.push _ _
  have g0 : H0.get H.nxt = some (.own [.int .i64 x0, .int .i64 x1, v2]) := by rw [← hG, push_get', if_pos rfl]
  have n0 : H.nxt < H0.nxt := by rw [← hG, Zbg]; omega
  have o2 := (rSlc rBooking).ownKeep o2 K0
  have C0 : Chg (F2) H H0 := K0.chg
  have b2 := mar_le marB_Booking x2 (k)
  refine GO_call ((markBookingS_is H0 [v2] x2 F2 (k) o2 nd2 (by omega)).mono ?_)
  rintro _ H1 ⟨c1, o2, rfl⟩
  have n1 := c1.nxt
  have C1 := C0.trans (c1.mono (fun a ha => by exact ha))
  have g1 := (c1.get H.nxt (by omega) (fun hm => by have := lt2 _ hm; omega)).trans g0
  simp (maxSteps := 4000000) (disch := omega) only [Zq, evO, vbox, wr, Zeq, if_true, if_false, Nat.reduceEqDiff, Nat.reduceAdd, Nat.reduceLeDiff, Nat.reduceSub, and_self, and_true, true_and, reduceIte, reduceCtorEq, eq_self, implies_true, forall_const, false_implies, imp_self, decide_true, decide_false, g1]
  exact ⟨C1, train_own' o2, rfl⟩
def heldBookingSB : X := (.seq (.seq (.reg [(.mk (.some 12) (.mov (.tmp 0)) none), (.mk (.some 13) (.mov (.tmp 5)) none), (.mk (.some 14) (.idx 4 (.tmp 12) (.tmp 13)) none), (.mk (.some 15) (.fad 0 (.tmp 14)) none), (.mk (.some 16) (.load1 (.tmp 15)) none), (.mk (.some 17) (.mov (.tmp 1)) none), (.mk (.some 18) (.bin (.neq) (.tmp 16) (.tmp 17)) none)]) (.cond (.tmp 18) (.seq (.reg [(.mk (.some 4) (.mov (.const (.int (.i64) (-1)))) none)]) (.ret)) (.skip))) (.seq (.reg [(.mk (.some 19) (.mov (.tmp 1)) none), (.mk (.some 20) (.bin (.add) (.tmp 19) (.const (.int (.i64) 1))) none), (.mk (.some 1) (.mov (.tmp 20)) none)]) (.seq (.seq (.reg [(.mk (.some 21) (.mov (.tmp 0)) none), (.mk (.some 22) (.mov (.tmp 5)) none), (.mk (.some 23) (.idx 4 (.tmp 21) (.tmp 22)) none), (.mk (.some 24) (.fad 1 (.tmp 23)) none), (.mk (.some 25) (.load1 (.tmp 24)) none), (.mk (.some 26) (.mov (.tmp 1)) none), (.mk (.some 27) (.bin (.neq) (.tmp 25) (.tmp 26)) none)]) (.cond (.tmp 27) (.seq (.reg [(.mk (.some 4) (.mov (.const (.int (.i64) (-1)))) none)]) (.ret)) (.skip))) (.seq (.reg [(.mk (.some 28) (.mov (.tmp 1)) none), (.mk (.some 29) (.bin (.add) (.tmp 28) (.const (.int (.i64) 1))) none), (.mk (.some 1) (.mov (.tmp 29)) none)]) (.seq (.seq (.reg [(.mk (.some 30) (.mov (.tmp 0)) none), (.mk (.some 31) (.mov (.tmp 5)) none), (.mk (.some 32) (.idx 4 (.tmp 30) (.tmp 31)) none), (.mk (.some 33) (.fad 2 (.tmp 32)) none), (.mk (.some 34) (.load1 (.tmp 33)) none), (.mk (.some 35) (.mov (.tmp 1)) none), (.mk (.some 36) (.bin (.neq) (.tmp 34) (.tmp 35)) none)]) (.cond (.tmp 36) (.seq (.reg [(.mk (.some 4) (.mov (.const (.int (.i64) (-1)))) none)]) (.ret)) (.skip))) (.seq (.reg [(.mk (.some 37) (.mov (.tmp 1)) none), (.mk (.some 38) (.bin (.add) (.tmp 37) (.const (.int (.i64) 1))) none), (.mk (.some 1) (.mov (.tmp 38)) none)]) (.seq (.seq (.reg [(.mk (.some 39) (.mov (.tmp 0)) none), (.mk (.some 40) (.mov (.tmp 5)) none), (.mk (.some 41) (.idx 4 (.tmp 39) (.tmp 40)) none), (.mk (.some 42) (.fad 3 (.tmp 41)) none), (.mk (.some 43) (.load1 (.tmp 42)) none), (.mk (.some 44) (.mov (.tmp 1)) none), (.mk (.some 45) (.bin (.neq) (.tmp 43) (.tmp 44)) none)]) (.cond (.tmp 45) (.seq (.reg [(.mk (.some 4) (.mov (.const (.int (.i64) (-1)))) none)]) (.ret)) (.skip))) (.reg [(.mk (.some 46) (.mov (.tmp 1)) none), (.mk (.some 47) (.bin (.add) (.tmp 46) (.const (.int (.i64) 1))) none), (.mk (.some 1) (.mov (.tmp 47)) none)]))))))))
theorem heldBookingSB_is : BHeld Try.prog rBooking heldBookingSB := by
  rintro v i n k cs ⟨x0, x1, x2, x3⟩ ks Q T H t0 t1 t5 hi hs hrd hk K
  have hs4 : Sl H v 4 n cs := hs
  have hrow : (cs.drop (i * 4)).take 4 = [.int .i64 ((k + 0 : Nat) : Int), .int .i64 ((k + 1 : Nat) : Int), .int .i64 ((k + 2 : Nat) : Int), .int .i64 ((k + 3 : Nat) : Int)] := hrd
  have q0 : cs[i * 4 + 0]? = some (.int .i64 ((k + 0 : Nat) : Int)) := row_get hrow (by omega) rfl
  have l0_0 := Sl.ld hs4 hi q0
  have q1 : cs[i * 4 + 1]? = some (.int .i64 ((k + 1 : Nat) : Int)) := row_get hrow (by omega) rfl
  have l1_0 := Sl.ld hs4 hi q1
  have q2 : cs[i * 4 + 2]? = some (.int .i64 ((k + 2 : Nat) : Int)) := row_get hrow (by omega) rfl
  have l2_0 := Sl.ld hs4 hi q2
  have q3 : cs[i * 4 + 3]? = some (.int .i64 ((k + 3 : Nat) : Int)) := row_get hrow (by omega) rfl
  have l3_0 := Sl.ld hs4 hi q3
  have K0 : Keep H H := Keep.refl H
  simp (maxSteps := 4000000) (disch := omega) only [Zq, evO, vbox, wr, Zeq, if_true, if_false, Nat.reduceEqDiff, Nat.reduceAdd, Nat.reduceLeDiff, Nat.reduceSub, and_self, and_true, true_and, reduceIte, reduceCtorEq, eq_self, implies_true, forall_const, false_implies, imp_self, decide_true, decide_false, heldBookingSB, t0, t1, t5, Sl.len_ hs4, Sl.idx hs4 hi, Sl.fad hs4 hi, l0_0, l1_0, l2_0, l3_0]
  refine K _ _ ?_ ?_ ?_ K0
  · simp (maxSteps := 4000000) (disch := omega) only [Zq, evO, vbox, wr, Zeq, if_true, if_false, Nat.reduceEqDiff, Nat.reduceAdd, Nat.reduceLeDiff, Nat.reduceSub, and_self, and_true, true_and, reduceIte, reduceCtorEq, eq_self, implies_true, forall_const, false_implies, imp_self, decide_true, decide_false, t0]
  · simp (maxSteps := 4000000) (disch := omega) only [Zq, evO, vbox, wr, Zeq, if_true, if_false, Nat.reduceEqDiff, Nat.reduceAdd, Nat.reduceLeDiff, Nat.reduceSub, and_self, and_true, true_and, reduceIte, reduceCtorEq, eq_self, implies_true, forall_const, false_implies, imp_self, decide_true, decide_false, t5]
  · simp (maxSteps := 4000000) (disch := omega) only [Zq, evO, vbox, wr, Zeq, if_true, if_false, Nat.reduceEqDiff, Nat.reduceAdd, Nat.reduceLeDiff, Nat.reduceSub, and_self, and_true, true_and, reduceIte, reduceCtorEq, eq_self, implies_true, forall_const, false_implies, imp_self, decide_true, decide_false, t1]
    try rfl
theorem heldBookingS_is : IsHeld Try.prog (rSlc rBooking) (rSlc rBooking).mar 55 := heldSlc_is (A := 48) (body := heldBookingSB) c55 marB_Booking heldBookingSB_is
theorem heldTrain_is : IsHeld Try.prog rTrain mTrain 24 := by
  rintro H cs ⟨x0, x1, x2⟩ k hrd hk
  obtain ⟨v2, rfl, h2⟩ := train_rd hrd
  rw [train_tot] at hk
  refine Run.intro c24 rfl ?_
  simp only [train_val]
  simp (maxSteps := 4000000) (disch := omega) only [Zq, evO, vbox, wr, Zeq, if_true, if_false, Nat.reduceEqDiff, Nat.reduceAdd, Nat.reduceLeDiff, Nat.reduceSub, and_self, and_true, true_and, reduceIte, reduceCtorEq, eq_self, implies_true, forall_const, false_implies, imp_self, decide_true, decide_false, x24]
  generalize hG : H.push [.int .i64 x0, .int .i64 x1, v2] = H0
  have K0 : Keep H H0 := by rw [← hG]; exact Keep.push _ _
  have g0 : H0.get H.nxt = some (.own [.int .i64 x0, .int .i64 x1, v2]) := by rw [← hG, push_get', if_pos rfl]
  have n0 : H.nxt < H0.nxt := by rw [← hG, Zbg]; omega
  have b2 := mar_le marB_Booking x2 (k)
  refine GO_call ((heldBookingS_is H0 [v2] x2 (k) ((rSlc rBooking).rdk h2 K0) (by omega)).mono ?_)
  rintro _ H1 ⟨k1, rfl⟩
  have n1 := k1.nxt
  have K1 := K0.trans k1
  have g1 := (k1.get H.nxt (by omega)).trans g0
  simp (maxSteps := 4000000) (disch := omega) only [Zq, evO, vbox, wr, Zeq, if_true, if_false, Nat.reduceEqDiff, Nat.reduceAdd, Nat.reduceLeDiff, Nat.reduceSub, and_self, and_true, true_and, reduceIte, reduceCtorEq, eq_self, implies_true, forall_const, false_implies, imp_self, decide_true, decide_false, g1]
  exact ⟨K1, rfl⟩
-- Sidings
def rSidings : Rep ((List Int) × (List (List Int))) := rPair (rSlc rInt) (rSlc (rSlc rInt))
theorem sidings_rd {H : Heap} {cs : List Value} {x0 : List Int} {x1 : List (List Int)} (h : rSidings.rd H cs (x0, x1)) : ∃ v0 v1, cs = [v0, v1] ∧ (rSlc rInt).rd H [v0] x0 ∧ (rSlc (rSlc rInt)).rd H [v1] x1 := by
  obtain ⟨c0, d0, rfl, h0, h1⟩ := h
  obtain ⟨v0, rfl⟩ := slc_one h0
  obtain ⟨v1, rfl⟩ := slc_one h1
  exact ⟨v0, v1, rfl, h0, h1⟩
theorem sidings_rd' {H : Heap} {v0 v1 : Value} {x0 : List Int} {x1 : List (List Int)} (h0 : (rSlc rInt).rd H [v0] x0) (h1 : (rSlc (rSlc rInt)).rd H [v1] x1) : rSidings.rd H [v0, v1] (x0, x1) := ⟨[v0], _, rfl, h0, h1⟩
theorem sidings_own {H : Heap} {cs : List Value} {x0 : List Int} {x1 : List (List Int)} {F : List Nat} (h : rSidings.own H cs (x0, x1) F) : ∃ v0 v1 F0 F1, cs = [v0, v1] ∧ (rSlc rInt).own H [v0] x0 F0 ∧ (rSlc (rSlc rInt)).own H [v1] x1 F1 ∧ F = F0 ++ F1 := by
  obtain ⟨c0, d0, E0, G0, rfl, h0, h1, rfl⟩ := h
  obtain ⟨v0, rfl⟩ := slc_one ((rSlc rInt).ownrd h0)
  obtain ⟨v1, rfl⟩ := slc_one ((rSlc (rSlc rInt)).ownrd h1)
  exact ⟨v0, v1, E0, G0, rfl, h0, h1, by simp⟩
theorem sidings_own' {H : Heap} {v0 v1 : Value} {x0 : List Int} {x1 : List (List Int)} {F0 F1 : List Nat} (h0 : (rSlc rInt).own H [v0] x0 F0) (h1 : (rSlc (rSlc rInt)).own H [v1] x1 F1) : rSidings.own H [v0, v1] (x0, x1) (F0 ++ F1) := by
  exact ⟨[v0], _, F0, _, rfl, h0, h1, rfl⟩
theorem sidings_val {v0 v1 : Value}  : rSidings.val [v0, v1] = .agg #[v0, v1] := nofl rfl
theorem sidings_tot {x0 : List Int} {x1 : List (List Int)} : rSidings.tot (x0, x1) = (rSlc rInt).tot x0 + (rSlc (rSlc rInt)).tot x1 := by
  show (rSlc rInt).tot x0 + (rSlc (rSlc rInt)).tot x1 = _
  omega
theorem marB_Sidings : MarB rSidings := MarB.of (MarC.pair (MarC.slc MarB.int) (MarC.slc (MarB.slc MarB.int))) (by omega)
theorem eqIntS_is : IsEq Try.prog (rSlc rInt) 45 := eqPlain_is c45 (fun z => by rw [Zdv]; simp)
theorem elemIntS : Elem (rSlc rInt) false 1 := ⟨rfl, by omega, fun h => (by cases h), fun _ => ⟨rfl, rfl⟩⟩
theorem eqIntSS_is : IsEq Try.prog (rSlc (rSlc rInt)) 46 := eqCall_is (agg := false) (sz := 1) c46 elemIntS eqIntS_is
theorem eqSidings_is : IsEq Try.prog rSidings 17 := by
  rintro H cs ds ⟨x0, x1⟩ hrd hrd2 htot
  obtain ⟨v0, v1, rfl, h0, h1⟩ := sidings_rd hrd
  obtain ⟨u0, u1, rfl, l0, l1⟩ := sidings_rd hrd2
  rw [sidings_tot] at htot
  refine Run.intro c17 rfl ?_
  simp only [sidings_val]
  simp (maxSteps := 4000000) (disch := omega) only [Zq, evO, vbox, wr, Zeq, if_true, if_false, Nat.reduceEqDiff, Nat.reduceAdd, Nat.reduceLeDiff, Nat.reduceSub, and_self, and_true, true_and, reduceIte, reduceCtorEq, eq_self, implies_true, forall_const, false_implies, imp_self, decide_true, decide_false, x17, vbinB_ne]
  refine GO_call ((eqIntS_is _ [v0] [u0] x0 ((rSlc rInt).rdk h0 (by repeat' (first | exact Keep.refl _ | assumption | refine Keep.push' ?_ | refine Keep.set' ?_ ?_ | refine Keep.moved' ?_ ?_ | omega))) ((rSlc rInt).rdk l0 (by repeat' (first | exact Keep.refl _ | assumption | refine Keep.push' ?_ | refine Keep.set' ?_ ?_ | refine Keep.moved' ?_ ?_ | omega))) (by omega)).mono ?_)
  rintro _ H1 ⟨k1, rfl⟩
  have n1 := k1.nxt
  have gA1 := k1.get H.nxt (by simp only [Zbg]; omega)
  have gB1 := k1.get (H.nxt + 1) (by simp only [Zbg]; omega)
  simp (maxSteps := 4000000) (disch := omega) only [Zq, evO, vbox, wr, Zeq, if_true, if_false, Nat.reduceEqDiff, Nat.reduceAdd, Nat.reduceLeDiff, Nat.reduceSub, and_self, and_true, true_and, reduceIte, reduceCtorEq, eq_self, implies_true, forall_const, false_implies, imp_self, decide_true, decide_false] at n1 gA1 gB1
  have K1 : Keep H H1 := Keep.trans (by repeat' (first | exact Keep.refl _ | assumption | refine Keep.push' ?_ | refine Keep.set' ?_ ?_ | refine Keep.moved' ?_ ?_ | omega)) k1
  simp (maxSteps := 4000000) (disch := omega) only [Zq, evO, vbox, wr, Zeq, if_true, if_false, Nat.reduceEqDiff, Nat.reduceAdd, Nat.reduceLeDiff, Nat.reduceSub, and_self, and_true, true_and, reduceIte, reduceCtorEq, eq_self, implies_true, forall_const, false_implies, imp_self, decide_true, decide_false, vbinB_ne, gA1, gB1]
  refine GO_call ((eqIntSS_is _ [v1] [u1] x1 ((rSlc (rSlc rInt)).rdk h1 K1) ((rSlc (rSlc rInt)).rdk l1 K1) (by omega)).mono ?_)
  rintro _ H2 ⟨k2, rfl⟩
  have K2 : Keep H H2 := Keep.trans K1 k2
  simp (maxSteps := 4000000) (disch := omega) only [Zq, evO, vbox, wr, Zeq, if_true, if_false, Nat.reduceEqDiff, Nat.reduceAdd, Nat.reduceLeDiff, Nat.reduceSub, and_self, and_true, true_and, reduceIte, reduceCtorEq, eq_self, implies_true, forall_const, false_implies, imp_self, decide_true, decide_false, vbinB_ne, gA1, gB1]
  try exact K2
theorem markIntS_is : IsMark Try.prog (rSlc rInt) (rSlc rInt).mar 51 := markMarkInt_is c51
def markIntSSB : X := (.reg [(.mk (.some 12) (.mov (.tmp 0)) none), (.mk (.some 13) (.mov (.tmp 5)) none), (.mk (.some 14) (.idx 1 (.tmp 12) (.tmp 13)) none), (.mk (.some 15) (.load1 (.tmp 14)) none), (.mk (.some 16) (.mov (.tmp 1)) none), (.mk (.some 17) (.call 51 [(.tmp 15), (.tmp 16)]) none), (.mk (.some 1) (.mov (.tmp 17)) none)])
theorem markIntSSB_is : BMark Try.prog (rSlc rInt) markIntSSB := by
  rintro p i n o k P0 Q0 row x0 F ks Q T H t0 t1 t5 hi hP hp hg hown hnd hpF hk K
  have t0 : T 0 = .slice (some ⟨p, o, none⟩) n 1 := t0
  have hP : P0.length = o + i * 1 := hP
  rw [Nat.mul_one] at hP
  obtain ⟨w0, rfl⟩ := slc_one ((rSlc rInt).ownrd hown)
  have o0 := hown
  have nd0 := hnd
  have lt0 := (rSlc rInt).ownlt o0
  have hp0 : p ∉ F := fun h => hpF (by exact h)
  have q0 : (mid P0 [w0] Q0)[o + i]? = some w0 := by exact mid_get (B := [w0]) (o := 0) hP rfl
  have C0 : Chg (p :: (F)) H H := Chg.refl _ _
  simp (maxSteps := 4000000) (disch := omega) only [Zq, evO, vbox, wr, Zeq, if_true, if_false, Nat.reduceEqDiff, Nat.reduceAdd, Nat.reduceLeDiff, Nat.reduceSub, and_self, and_true, true_and, reduceIte, reduceCtorEq, eq_self, implies_true, forall_const, false_implies, imp_self, decide_true, decide_false, markIntSSB, t0, t1, t5, Zfo hi, Zfo, q0, hg]
  have b0 := mar_le MarB.int x0 (k)
  refine GO_call ((markIntS_is H [w0] x0 F (k) o0 nd0 (by omega)).mono ?_)
  rintro _ H1 ⟨c1, o0, rfl⟩
  have g1 := (c1.get p (by have := c1.nxt; have := C0.nxt; omega) hp0).trans hg
  have C1 := C0.trans (c1.mono (F' := p :: (F)) (fun a ha => by simp [ha]))
  simp (maxSteps := 4000000) (disch := omega) only [Zq, evO, vbox, wr, Zeq, if_true, if_false, Nat.reduceEqDiff, Nat.reduceAdd, Nat.reduceLeDiff, Nat.reduceSub, and_self, and_true, true_and, reduceIte, reduceCtorEq, eq_self, implies_true, forall_const, false_implies, imp_self, decide_true, decide_false, t0, t1, t5, Zfo hi, Zfo, q0, g1]
  refine K _ _ [w0] ?_ ?_ ?_ C1 g1 o0
  · simp (maxSteps := 4000000) (disch := omega) only [Zq, evO, vbox, wr, Zeq, if_true, if_false, Nat.reduceEqDiff, Nat.reduceAdd, Nat.reduceLeDiff, Nat.reduceSub, and_self, and_true, true_and, reduceIte, reduceCtorEq, eq_self, implies_true, forall_const, false_implies, imp_self, decide_true, decide_false, t0]
  · simp (maxSteps := 4000000) (disch := omega) only [Zq, evO, vbox, wr, Zeq, if_true, if_false, Nat.reduceEqDiff, Nat.reduceAdd, Nat.reduceLeDiff, Nat.reduceSub, and_self, and_true, true_and, reduceIte, reduceCtorEq, eq_self, implies_true, forall_const, false_implies, imp_self, decide_true, decide_false, t5]
  · simp (maxSteps := 4000000) (disch := omega) only [Zq, evO, vbox, wr, Zeq, if_true, if_false, Nat.reduceEqDiff, Nat.reduceAdd, Nat.reduceLeDiff, Nat.reduceSub, and_self, and_true, true_and, reduceIte, reduceCtorEq, eq_self, implies_true, forall_const, false_implies, imp_self, decide_true, decide_false, t1]
    try rfl
theorem markIntSS_is : IsMark Try.prog (rSlc (rSlc rInt)) (rSlc (rSlc rInt)).mar 52 := markSlc_is (A := 18) (body := markIntSSB) c52 (MarB.slc MarB.int) markIntSSB_is
def mSidings (x : (List Int) × (List (List Int))) (k : Nat) : ((List Int) × (List (List Int))) × Nat := ((((rSlc rInt).mar x.1 k).1, ((rSlc (rSlc rInt)).mar x.2 ((rSlc rInt).mar x.1 k).2).1), ((rSlc (rSlc rInt)).mar x.2 ((rSlc rInt).mar x.1 k).2).2)
theorem markSidings_is : IsMark Try.prog rSidings mSidings 21 := by
  rintro H cs ⟨x0, x1⟩ F k hown hnd hk
  obtain ⟨v0, v1, F0, F1, rfl, o0, o1, hF⟩ := sidings_own hown
  subst F
  obtain ⟨nd0, l0, dj0⟩ := List.nodup_append.1 hnd
  have nd1 := l0
  have lt0 := (rSlc rInt).ownlt o0
  have lt1 := (rSlc (rSlc rInt)).ownlt o1
  rw [sidings_tot] at hk
  refine Run.intro c21 rfl ?_
  simp only [sidings_val]
  simp (maxSteps := 4000000) (disch := omega) only [Zq, evO, vbox, wr, Zeq, if_true, if_false, Nat.reduceEqDiff, Nat.reduceAdd, Nat.reduceLeDiff, Nat.reduceSub, and_self, and_true, true_and, reduceIte, reduceCtorEq, eq_self, implies_true, forall_const, false_implies, imp_self, decide_true, decide_false, x21]
  generalize hG : H.push [v0, v1] = H0
  have K0 : Keep H H0 := by rw [← hG]; exact Keep.push _ _
  have g0 : H0.get H.nxt = some (.own [v0, v1]) := by rw [← hG, push_get', if_pos rfl]
  have n0 : H.nxt < H0.nxt := by rw [← hG, Zbg]; omega
  have o0 := (rSlc rInt).ownKeep o0 K0
  have o1 := (rSlc (rSlc rInt)).ownKeep o1 K0
  have C0 : Chg (F0 ++ F1) H H0 := K0.chg
  have b0 := mar_le MarB.int x0 (k)
  refine GO_call ((markIntS_is H0 [v0] x0 F0 (k) o0 nd0 (by omega)).mono ?_)
  rintro _ H1 ⟨c1, o0, rfl⟩
  have n1 := c1.nxt
  have o1 := (rSlc (rSlc rInt)).ownChg o1 c1 (fun a ha hm => dj0 a hm a (ha) rfl)
  have C1 := C0.trans (c1.mono (fun a ha => by simp only [List.mem_append]; simp [ha]))
  have g1 := (c1.get H.nxt (by omega) (fun hm => by have := lt0 _ hm; omega)).trans g0
  simp (maxSteps := 4000000) (disch := omega) only [Zq, evO, vbox, wr, Zeq, if_true, if_false, Nat.reduceEqDiff, Nat.reduceAdd, Nat.reduceLeDiff, Nat.reduceSub, and_self, and_true, true_and, reduceIte, reduceCtorEq, eq_self, implies_true, forall_const, false_implies, imp_self, decide_true, decide_false, g1]
  have b1 := mar_le (MarB.slc MarB.int) x1 (((rSlc rInt).mar x0 k).2)
  refine GO_call ((markIntSS_is H1 [v1] x1 F1 (((rSlc rInt).mar x0 k).2) o1 nd1 (by omega)).mono ?_)
  rintro _ H2 ⟨c2, o1, rfl⟩
  have n2 := c2.nxt
  have o0 := (rSlc rInt).ownChg o0 c2 (fun a ha hm => dj0 a ha a (hm) rfl)
  have C2 := C1.trans (c2.mono (fun a ha => by simp only [List.mem_append]; simp [ha]))
  have g2 := (c2.get H.nxt (by omega) (fun hm => by have := lt1 _ hm; omega)).trans g1
  simp (maxSteps := 4000000) (disch := omega) only [Zq, evO, vbox, wr, Zeq, if_true, if_false, Nat.reduceEqDiff, Nat.reduceAdd, Nat.reduceLeDiff, Nat.reduceSub, and_self, and_true, true_and, reduceIte, reduceCtorEq, eq_self, implies_true, forall_const, false_implies, imp_self, decide_true, decide_false, g2]
  exact ⟨C2, sidings_own' o0 o1, rfl⟩
theorem heldIntS_is : IsHeld Try.prog (rSlc rInt) (rSlc rInt).mar 56 := heldHeldInt_is c56
def heldIntSSB : X := (.seq (.reg [(.mk (.some 12) (.mov (.tmp 0)) none), (.mk (.some 13) (.mov (.tmp 5)) none), (.mk (.some 14) (.idx 1 (.tmp 12) (.tmp 13)) none), (.mk (.some 15) (.load1 (.tmp 14)) none), (.mk (.some 16) (.mov (.tmp 1)) none), (.mk (.some 17) (.call 56 [(.tmp 15), (.tmp 16)]) none), (.mk (.some 1) (.mov (.tmp 17)) none)]) (.seq (.reg [(.mk (.some 18) (.mov (.tmp 1)) none), (.mk (.some 19) (.bin (.lss) (.tmp 18) (.const (.int (.i64) 0))) none)]) (.cond (.tmp 19) (.seq (.reg [(.mk (.some 4) (.mov (.const (.int (.i64) (-1)))) none)]) (.ret)) (.skip))))
theorem heldIntSSB_is : BHeld Try.prog (rSlc rInt) heldIntSSB := by
  rintro v i n k cs x0 ks Q T H t0 t1 t5 hi hs hrd hk K
  have hs1 : Sl H v 1 n cs := hs
  obtain ⟨w0, hrow⟩ := slc_one hrd
  rw [hrow] at hrd
  have hrow : (cs.drop (i * 1)).take 1 = [w0] := hrow
  have h0 := hrd
  have q0 : cs[i * 1 + 0]? = some (w0) := row_get hrow (by omega) rfl
  have l0_0 := Sl.ld hs1 hi q0
  have K0 : Keep H H := Keep.refl H
  simp (maxSteps := 4000000) (disch := omega) only [Zq, evO, vbox, wr, Zeq, if_true, if_false, Nat.reduceEqDiff, Nat.reduceAdd, Nat.reduceLeDiff, Nat.reduceSub, and_self, and_true, true_and, reduceIte, reduceCtorEq, eq_self, implies_true, forall_const, false_implies, imp_self, decide_true, decide_false, heldIntSSB, t0, t1, t5, Sl.len_ hs1, Sl.idx hs1 hi, Sl.fad hs1 hi, l0_0]
  have b0 := mar_le MarB.int x0 (k)
  refine GO_call ((heldIntS_is H [w0] x0 (k) ((rSlc rInt).rdk h0 K0) (by omega)).mono ?_)
  rintro _ H1 ⟨k1, rfl⟩
  have K1 := K0.trans k1
  have hs1_1 := hs1.keep K1
  have l0_1 := Sl.ld hs1_1 hi q0
  simp (maxSteps := 4000000) (disch := omega) only [Zq, evO, vbox, wr, Zeq, if_true, if_false, Nat.reduceEqDiff, Nat.reduceAdd, Nat.reduceLeDiff, Nat.reduceSub, and_self, and_true, true_and, reduceIte, reduceCtorEq, eq_self, implies_true, forall_const, false_implies, imp_self, decide_true, decide_false, t0, t1, t5, Sl.len_ hs1, Sl.idx hs1 hi, Sl.fad hs1 hi, l0_1]
  refine K _ _ ?_ ?_ ?_ K1
  · simp (maxSteps := 4000000) (disch := omega) only [Zq, evO, vbox, wr, Zeq, if_true, if_false, Nat.reduceEqDiff, Nat.reduceAdd, Nat.reduceLeDiff, Nat.reduceSub, and_self, and_true, true_and, reduceIte, reduceCtorEq, eq_self, implies_true, forall_const, false_implies, imp_self, decide_true, decide_false, t0]
  · simp (maxSteps := 4000000) (disch := omega) only [Zq, evO, vbox, wr, Zeq, if_true, if_false, Nat.reduceEqDiff, Nat.reduceAdd, Nat.reduceLeDiff, Nat.reduceSub, and_self, and_true, true_and, reduceIte, reduceCtorEq, eq_self, implies_true, forall_const, false_implies, imp_self, decide_true, decide_false, t5]
  · simp (maxSteps := 4000000) (disch := omega) only [Zq, evO, vbox, wr, Zeq, if_true, if_false, Nat.reduceEqDiff, Nat.reduceAdd, Nat.reduceLeDiff, Nat.reduceSub, and_self, and_true, true_and, reduceIte, reduceCtorEq, eq_self, implies_true, forall_const, false_implies, imp_self, decide_true, decide_false, t1]
    try rfl
theorem heldIntSS_is : IsHeld Try.prog (rSlc (rSlc rInt)) (rSlc (rSlc rInt)).mar 57 := heldSlc_is (A := 20) (body := heldIntSSB) c57 (MarB.slc MarB.int) heldIntSSB_is
theorem heldSidings_is : IsHeld Try.prog rSidings mSidings 25 := by
  rintro H cs ⟨x0, x1⟩ k hrd hk
  obtain ⟨v0, v1, rfl, h0, h1⟩ := sidings_rd hrd
  rw [sidings_tot] at hk
  refine Run.intro c25 rfl ?_
  simp only [sidings_val]
  simp (maxSteps := 4000000) (disch := omega) only [Zq, evO, vbox, wr, Zeq, if_true, if_false, Nat.reduceEqDiff, Nat.reduceAdd, Nat.reduceLeDiff, Nat.reduceSub, and_self, and_true, true_and, reduceIte, reduceCtorEq, eq_self, implies_true, forall_const, false_implies, imp_self, decide_true, decide_false, x25]
  generalize hG : H.push [v0, v1] = H0
  have K0 : Keep H H0 := by rw [← hG]; exact Keep.push _ _
  have g0 : H0.get H.nxt = some (.own [v0, v1]) := by rw [← hG, push_get', if_pos rfl]
  have n0 : H.nxt < H0.nxt := by rw [← hG, Zbg]; omega
  have b0 := mar_le MarB.int x0 (k)
  refine GO_call ((heldIntS_is H0 [v0] x0 (k) ((rSlc rInt).rdk h0 K0) (by omega)).mono ?_)
  rintro _ H1 ⟨k1, rfl⟩
  have n1 := k1.nxt
  have K1 := K0.trans k1
  have g1 := (k1.get H.nxt (by omega)).trans g0
  simp (maxSteps := 4000000) (disch := omega) only [Zq, evO, vbox, wr, Zeq, if_true, if_false, Nat.reduceEqDiff, Nat.reduceAdd, Nat.reduceLeDiff, Nat.reduceSub, and_self, and_true, true_and, reduceIte, reduceCtorEq, eq_self, implies_true, forall_const, false_implies, imp_self, decide_true, decide_false, g1]
  have b1 := mar_le (MarB.slc MarB.int) x1 (((rSlc rInt).mar x0 k).2)
  refine GO_call ((heldIntSS_is H1 [v1] x1 (((rSlc rInt).mar x0 k).2) ((rSlc (rSlc rInt)).rdk h1 K1) (by omega)).mono ?_)
  rintro _ H2 ⟨k2, rfl⟩
  have n2 := k2.nxt
  have K2 := K1.trans k2
  have g2 := (k2.get H.nxt (by omega)).trans g1
  simp (maxSteps := 4000000) (disch := omega) only [Zq, evO, vbox, wr, Zeq, if_true, if_false, Nat.reduceEqDiff, Nat.reduceAdd, Nat.reduceLeDiff, Nat.reduceSub, and_self, and_true, true_and, reduceIte, reduceCtorEq, eq_self, implies_true, forall_const, false_implies, imp_self, decide_true, decide_false, g2]
  exact ⟨K2, rfl⟩
end Go.Proofs.Ytkadelndmaegdaa.AX
