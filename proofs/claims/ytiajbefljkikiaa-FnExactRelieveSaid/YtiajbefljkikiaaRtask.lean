/- Tasks: what the laws' helpers do. No condition beyond each law's own; of the program: the functions' forms. -/
import Derived.Test.YtiajbefljkikiaaXI
import Derived.Test.YtiajbefljkikiaaAXzd
namespace Go.Proofs.Ytiajbefljkikiaa.AX
open Go
set_option maxRecDepth 10000
set_option maxHeartbeats 4000000
set_option linter.unusedSimpArgs false
set_option linter.unusedVariables false
-- Task
def taskC (x : Int × Int × Int × Int × Int) : List Value := [.int .i64 x.1, .int .i64 x.2.1, .int .i64 x.2.2.1, .int .i64 x.2.2.2.1, .int .i64 x.2.2.2.2]
theorem taskC_len (x : Int × Int × Int × Int × Int) : (taskC x).length = 5 := rfl
def taskM (x : Int × Int × Int × Int × Int) (k : Nat) : (Int × Int × Int × Int × Int) × Nat := ((((k + 0 : Nat) : Int), ((k + 1 : Nat) : Int), ((k + 2 : Nat) : Int), ((k + 3 : Nat) : Int), ((k + 4 : Nat) : Int)), k + 5)
abbrev rTask : Rep (Int × Int × Int × Int × Int) := flatRep taskC 5 taskC_len taskM
theorem task_val (x : Int × Int × Int × Int × Int) : rTask.val (taskC x) = .agg #[.int .i64 x.1, .int .i64 x.2.1, .int .i64 x.2.2.1, .int .i64 x.2.2.2.1, .int .i64 x.2.2.2.2] := nofl rfl
theorem marB_Task : MarB rTask := fun x k => by show k + 5 ≤ _; omega
theorem szTaskS_is : IsSz Try.prog (rSlc rTask) 48 := szFlat_is c48 (fun _ => rfl)
theorem toTask_is : IsTo Try.prog rTask 92 := by
  intro H cs a hrd _
  have e : cs = taskC a := hrd
  subst e
  refine Run.intro c92 rfl ?_
  simp only [task_val]
  simp (maxSteps := 4000000) (disch := omega) only [Zq, evO, vbox, wr, Zeq, if_true, if_false, Nat.reduceEqDiff, Nat.reduceAdd, Nat.reduceLeDiff, Nat.reduceSub, and_self, and_true, true_and, reduceIte, reduceCtorEq, eq_self, implies_true, forall_const, false_implies, imp_self, decide_true, decide_false, x92]
  exact ⟨by repeat' (first | exact Keep.refl _ | assumption | refine Keep.push' ?_ | refine Keep.set' ?_ ?_ | refine Keep.moved' ?_ ?_ | omega), taskC a, [], rfl, ⟨rfl, rfl⟩, List.nodup_nil, fun i hi => by cases hi⟩
theorem elemTask : Elem rTask true 5 := ⟨rfl, by omega, fun _ _ => rfl, fun h => by cases h⟩
theorem toTaskS_is : IsTo Try.prog (rSlc rTask) 50 := toCall_is (agg := true) (sz := 5) (bytes := 40) (zs := [.int .i64 0, .int .i64 0, .int .i64 0, .int .i64 0, .int .i64 0]) c50 (by omega) rfl elemTask toTask_is
theorem eqTask_is : IsEq Try.prog rTask 97 := by
  intro H cs ds a hrd hrd2 _
  have e : cs = taskC a := hrd
  have e2 : ds = taskC a := hrd2
  subst e e2
  refine Run.intro c97 rfl ?_
  simp only [task_val]
  simp (maxSteps := 4000000) (disch := omega) only [Zq, evO, vbox, wr, Zeq, if_true, if_false, Nat.reduceEqDiff, Nat.reduceAdd, Nat.reduceLeDiff, Nat.reduceSub, and_self, and_true, true_and, reduceIte, reduceCtorEq, eq_self, implies_true, forall_const, false_implies, imp_self, decide_true, decide_false, x97, vbinB_ne]
  try repeat' (first | exact Keep.refl _ | assumption | refine Keep.push' ?_ | refine Keep.set' ?_ ?_ | refine Keep.moved' ?_ ?_ | omega)
theorem eqTaskS_is : IsEq Try.prog (rSlc rTask) 54 := eqCall_is (agg := true) (sz := 5) c54 elemTask eqTask_is
def markTaskSB : X := (.seq (.reg [(.mk (.some 12) (.mov (.tmp 0)) none), (.mk (.some 13) (.mov (.tmp 5)) none), (.mk (.some 14) (.mov (.tmp 1)) none), (.mk (.some 15) (.idx 5 (.tmp 12) (.tmp 13)) none), (.mk (.some 16) (.fad 0 (.tmp 15)) none), (.mk none (.store 1 (.tmp 16) (.tmp 14)) none)]) (.seq (.reg [(.mk (.some 17) (.mov (.tmp 1)) none), (.mk (.some 18) (.bin (.add) (.tmp 17) (.const (.int (.i64) 1))) none), (.mk (.some 1) (.mov (.tmp 18)) none)]) (.seq (.reg [(.mk (.some 19) (.mov (.tmp 0)) none), (.mk (.some 20) (.mov (.tmp 5)) none), (.mk (.some 21) (.mov (.tmp 1)) none), (.mk (.some 22) (.idx 5 (.tmp 19) (.tmp 20)) none), (.mk (.some 23) (.fad 1 (.tmp 22)) none), (.mk none (.store 1 (.tmp 23) (.tmp 21)) none)]) (.seq (.reg [(.mk (.some 24) (.mov (.tmp 1)) none), (.mk (.some 25) (.bin (.add) (.tmp 24) (.const (.int (.i64) 1))) none), (.mk (.some 1) (.mov (.tmp 25)) none)]) (.seq (.reg [(.mk (.some 26) (.mov (.tmp 0)) none), (.mk (.some 27) (.mov (.tmp 5)) none), (.mk (.some 28) (.mov (.tmp 1)) none), (.mk (.some 29) (.idx 5 (.tmp 26) (.tmp 27)) none), (.mk (.some 30) (.fad 2 (.tmp 29)) none), (.mk none (.store 1 (.tmp 30) (.tmp 28)) none)]) (.seq (.reg [(.mk (.some 31) (.mov (.tmp 1)) none), (.mk (.some 32) (.bin (.add) (.tmp 31) (.const (.int (.i64) 1))) none), (.mk (.some 1) (.mov (.tmp 32)) none)]) (.seq (.reg [(.mk (.some 33) (.mov (.tmp 0)) none), (.mk (.some 34) (.mov (.tmp 5)) none), (.mk (.some 35) (.mov (.tmp 1)) none), (.mk (.some 36) (.idx 5 (.tmp 33) (.tmp 34)) none), (.mk (.some 37) (.fad 3 (.tmp 36)) none), (.mk none (.store 1 (.tmp 37) (.tmp 35)) none)]) (.seq (.reg [(.mk (.some 38) (.mov (.tmp 1)) none), (.mk (.some 39) (.bin (.add) (.tmp 38) (.const (.int (.i64) 1))) none), (.mk (.some 1) (.mov (.tmp 39)) none)]) (.seq (.reg [(.mk (.some 40) (.mov (.tmp 0)) none), (.mk (.some 41) (.mov (.tmp 5)) none), (.mk (.some 42) (.mov (.tmp 1)) none), (.mk (.some 43) (.idx 5 (.tmp 40) (.tmp 41)) none), (.mk (.some 44) (.fad 4 (.tmp 43)) none), (.mk none (.store 1 (.tmp 44) (.tmp 42)) none)]) (.reg [(.mk (.some 45) (.mov (.tmp 1)) none), (.mk (.some 46) (.bin (.add) (.tmp 45) (.const (.int (.i64) 1))) none), (.mk (.some 1) (.mov (.tmp 46)) none)]))))))))))
theorem markTaskSB_is : BMark Try.prog rTask markTaskSB := by
  rintro p i n o k P0 Q0 row ⟨x0, x1, x2, x3, x4⟩ F ks Q T H t0 t1 t5 hi hP hp hg hown hnd hpF hk K
  have t0 : T 0 = .slice (some ⟨p, o, none⟩) n 5 := t0
  have hP : P0.length = o + i * 5 := hP
  obtain ⟨e0, e1⟩ : row = [.int .i64 x0, .int .i64 x1, .int .i64 x2, .int .i64 x3, .int .i64 x4] ∧ F = [] := hown
  subst e0 e1
  have s0 : ∀ H1 : Heap, stO H1 1 p (o + i * 5) (.int .i64 ((k : Nat) : Int)) (some (.own (mid P0 [.int .i64 x0, .int .i64 x1, .int .i64 x2, .int .i64 x3, .int .i64 x4] Q0))) = some (undef, H1.set p (mid P0 [.int .i64 ((k : Nat) : Int), .int .i64 x1, .int .i64 x2, .int .i64 x3, .int .i64 x4] Q0)) := fun H1 => by exact stO_mid (B := [.int .i64 x0, .int .i64 x1, .int .i64 x2, .int .i64 x3, .int .i64 x4]) (o := 0) rfl hP (by simp)
  have s1 : ∀ H1 : Heap, stO H1 1 p (o + (i * 5 + 1)) (.int .i64 (((k + 1) : Nat) : Int)) (some (.own (mid P0 [.int .i64 ((k : Nat) : Int), .int .i64 x1, .int .i64 x2, .int .i64 x3, .int .i64 x4] Q0))) = some (undef, H1.set p (mid P0 [.int .i64 ((k : Nat) : Int), .int .i64 (((k + 1) : Nat) : Int), .int .i64 x2, .int .i64 x3, .int .i64 x4] Q0)) := fun H1 => by rw [← Nat.add_assoc]; exact stO_mid (B := [.int .i64 ((k : Nat) : Int), .int .i64 x1, .int .i64 x2, .int .i64 x3, .int .i64 x4]) (o := 1) rfl hP (by simp)
  have s2 : ∀ H1 : Heap, stO H1 1 p (o + (i * 5 + 2)) (.int .i64 ((((k + 1) + 1) : Nat) : Int)) (some (.own (mid P0 [.int .i64 ((k : Nat) : Int), .int .i64 (((k + 1) : Nat) : Int), .int .i64 x2, .int .i64 x3, .int .i64 x4] Q0))) = some (undef, H1.set p (mid P0 [.int .i64 ((k : Nat) : Int), .int .i64 (((k + 1) : Nat) : Int), .int .i64 ((((k + 1) + 1) : Nat) : Int), .int .i64 x3, .int .i64 x4] Q0)) := fun H1 => by rw [← Nat.add_assoc]; exact stO_mid (B := [.int .i64 ((k : Nat) : Int), .int .i64 (((k + 1) : Nat) : Int), .int .i64 x2, .int .i64 x3, .int .i64 x4]) (o := 2) rfl hP (by simp)
  have s3 : ∀ H1 : Heap, stO H1 1 p (o + (i * 5 + 3)) (.int .i64 (((((k + 1) + 1) + 1) : Nat) : Int)) (some (.own (mid P0 [.int .i64 ((k : Nat) : Int), .int .i64 (((k + 1) : Nat) : Int), .int .i64 ((((k + 1) + 1) : Nat) : Int), .int .i64 x3, .int .i64 x4] Q0))) = some (undef, H1.set p (mid P0 [.int .i64 ((k : Nat) : Int), .int .i64 (((k + 1) : Nat) : Int), .int .i64 ((((k + 1) + 1) : Nat) : Int), .int .i64 (((((k + 1) + 1) + 1) : Nat) : Int), .int .i64 x4] Q0)) := fun H1 => by rw [← Nat.add_assoc]; exact stO_mid (B := [.int .i64 ((k : Nat) : Int), .int .i64 (((k + 1) : Nat) : Int), .int .i64 ((((k + 1) + 1) : Nat) : Int), .int .i64 x3, .int .i64 x4]) (o := 3) rfl hP (by simp)
  have s4 : ∀ H1 : Heap, stO H1 1 p (o + (i * 5 + 4)) (.int .i64 ((((((k + 1) + 1) + 1) + 1) : Nat) : Int)) (some (.own (mid P0 [.int .i64 ((k : Nat) : Int), .int .i64 (((k + 1) : Nat) : Int), .int .i64 ((((k + 1) + 1) : Nat) : Int), .int .i64 (((((k + 1) + 1) + 1) : Nat) : Int), .int .i64 x4] Q0))) = some (undef, H1.set p (mid P0 [.int .i64 ((k : Nat) : Int), .int .i64 (((k + 1) : Nat) : Int), .int .i64 ((((k + 1) + 1) : Nat) : Int), .int .i64 (((((k + 1) + 1) + 1) : Nat) : Int), .int .i64 ((((((k + 1) + 1) + 1) + 1) : Nat) : Int)] Q0)) := fun H1 => by rw [← Nat.add_assoc]; exact stO_mid (B := [.int .i64 ((k : Nat) : Int), .int .i64 (((k + 1) : Nat) : Int), .int .i64 ((((k + 1) + 1) : Nat) : Int), .int .i64 (((((k + 1) + 1) + 1) : Nat) : Int), .int .i64 x4]) (o := 4) rfl hP (by simp)
  have C0 : Chg (p :: ([])) H H := Chg.refl _ _
  simp (maxSteps := 4000000) (disch := omega) only [Zq, evO, vbox, wr, Zeq, if_true, if_false, Nat.reduceEqDiff, Nat.reduceAdd, Nat.reduceLeDiff, Nat.reduceSub, and_self, and_true, true_and, reduceIte, reduceCtorEq, eq_self, implies_true, forall_const, false_implies, imp_self, decide_true, decide_false, markTaskSB, t0, t1, t5, Zfo hi, Zfo, s0, s1, s2, s3, s4, hg]
  refine K _ _ [.int .i64 ((k : Nat) : Int), .int .i64 (((k + 1) : Nat) : Int), .int .i64 ((((k + 1) + 1) : Nat) : Int), .int .i64 (((((k + 1) + 1) + 1) : Nat) : Int), .int .i64 ((((((k + 1) + 1) + 1) + 1) : Nat) : Int)] ?_ ?_ ?_ ?_ ?_ ⟨rfl, rfl⟩
  · simp (maxSteps := 4000000) (disch := omega) only [Zq, evO, vbox, wr, Zeq, if_true, if_false, Nat.reduceEqDiff, Nat.reduceAdd, Nat.reduceLeDiff, Nat.reduceSub, and_self, and_true, true_and, reduceIte, reduceCtorEq, eq_self, implies_true, forall_const, false_implies, imp_self, decide_true, decide_false, t0]
  · simp (maxSteps := 4000000) (disch := omega) only [Zq, evO, vbox, wr, Zeq, if_true, if_false, Nat.reduceEqDiff, Nat.reduceAdd, Nat.reduceLeDiff, Nat.reduceSub, and_self, and_true, true_and, reduceIte, reduceCtorEq, eq_self, implies_true, forall_const, false_implies, imp_self, decide_true, decide_false, t5]
  · simp (maxSteps := 4000000) (disch := omega) only [Zq, evO, vbox, wr, Zeq, if_true, if_false, Nat.reduceEqDiff, Nat.reduceAdd, Nat.reduceLeDiff, Nat.reduceSub, and_self, and_true, true_and, reduceIte, reduceCtorEq, eq_self, implies_true, forall_const, false_implies, imp_self, decide_true, decide_false, t1]
    try rfl
  · repeat' (first | exact Chg.refl _ _ | refine Chg.trans ?_ (Chg.set (by simp)))
  · simp only [Zbi, if_true]
theorem markTaskS_is : IsMark Try.prog (rSlc rTask) (rSlc rTask).mar 55 := markSlc_is (A := 47) (body := markTaskSB) c55 marB_Task markTaskSB_is
theorem szIntS_is : IsSz Try.prog (rSlc rInt) 71 := szPlain_is c71
theorem toIntS_is : IsTo Try.prog (rSlc rInt) 51 := toPlain_is c51 (by omega)
theorem eqIntS_is : IsEq Try.prog (rSlc rInt) 43 := eqPlain_is c43 (fun z => by rw [Zdv]; simp)
theorem markIntS_is : IsMark Try.prog (rSlc rInt) (rSlc rInt).mar 46 := markMarkInt_is c46
theorem heldIntS_is : IsHeld Try.prog (rSlc rInt) (rSlc rInt).mar 47 := heldHeldInt_is c47
-- Rule
def ruleC (x : Int × Int × Int × Int) : List Value := [.int .i64 x.1, .int .i64 x.2.1, .int .i64 x.2.2.1, .int .i64 x.2.2.2]
theorem ruleC_len (x : Int × Int × Int × Int) : (ruleC x).length = 4 := rfl
def ruleM (x : Int × Int × Int × Int) (k : Nat) : (Int × Int × Int × Int) × Nat := ((((k + 0 : Nat) : Int), ((k + 1 : Nat) : Int), ((k + 2 : Nat) : Int), ((k + 3 : Nat) : Int)), k + 4)
abbrev rRule : Rep (Int × Int × Int × Int) := flatRep ruleC 4 ruleC_len ruleM
theorem rule_val (x : Int × Int × Int × Int) : rRule.val (ruleC x) = .agg #[.int .i64 x.1, .int .i64 x.2.1, .int .i64 x.2.2.1, .int .i64 x.2.2.2] := nofl rfl
theorem marB_Rule : MarB rRule := fun x k => by show k + 4 ≤ _; omega
theorem toRule_is : IsTo Try.prog rRule 52 := by
  intro H cs a hrd _
  have e : cs = ruleC a := hrd
  subst e
  refine Run.intro c52 rfl ?_
  simp only [rule_val]
  simp (maxSteps := 4000000) (disch := omega) only [Zq, evO, vbox, wr, Zeq, if_true, if_false, Nat.reduceEqDiff, Nat.reduceAdd, Nat.reduceLeDiff, Nat.reduceSub, and_self, and_true, true_and, reduceIte, reduceCtorEq, eq_self, implies_true, forall_const, false_implies, imp_self, decide_true, decide_false, x52]
  exact ⟨by repeat' (first | exact Keep.refl _ | assumption | refine Keep.push' ?_ | refine Keep.set' ?_ ?_ | refine Keep.moved' ?_ ?_ | omega), ruleC a, [], rfl, ⟨rfl, rfl⟩, List.nodup_nil, fun i hi => by cases hi⟩
end Go.Proofs.Ytiajbefljkikiaa.AX
