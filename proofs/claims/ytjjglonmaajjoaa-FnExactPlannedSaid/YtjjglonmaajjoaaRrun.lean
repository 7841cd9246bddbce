/- Runs: what the laws' helpers do. No condition beyond each law's own; of the program: the functions' forms. -/
import Derived.Test.YtjjglonmaajjoaaRtrip
namespace Go.Proofs.Ytjjglonmaajjoaa.AX
open Go
set_option maxRecDepth 10000
set_option maxHeartbeats 4000000
set_option linter.unusedSimpArgs false
set_option linter.unusedVariables false
-- Run
def runC (x : Int × Int × Int × Int) : List Value := [.int .i64 x.1, .int .i64 x.2.1, .int .i64 x.2.2.1, .int .i64 x.2.2.2]
theorem runC_len (x : Int × Int × Int × Int) : (runC x).length = 4 := rfl
def runM (x : Int × Int × Int × Int) (k : Nat) : (Int × Int × Int × Int) × Nat := ((((k + 0 : Nat) : Int), ((k + 1 : Nat) : Int), ((k + 2 : Nat) : Int), ((k + 3 : Nat) : Int)), k + 4)
abbrev rRun : Rep (Int × Int × Int × Int) := flatRep runC 4 runC_len runM
theorem run_val (x : Int × Int × Int × Int) : rRun.val (runC x) = .agg #[.int .i64 x.1, .int .i64 x.2.1, .int .i64 x.2.2.1, .int .i64 x.2.2.2] := nofl rfl
theorem marB_Run : MarB rRun := fun x k => by show k + 4 ≤ _; omega
theorem szRunS_is : IsSz Try.prog (rSlc rRun) 50 := szFlat_is c50 (fun _ => rfl)
theorem toRun_is : IsTo Try.prog rRun 80 := by
  intro H cs a hrd _
  have e : cs = runC a := hrd
  subst e
  refine Run.intro c80 rfl ?_
  simp only [run_val]
  simp (maxSteps := 4000000) (disch := omega) only [Zq, evO, vbox, wr, Zeq, if_true, if_false, Nat.reduceEqDiff, Nat.reduceAdd, Nat.reduceLeDiff, Nat.reduceSub, and_self, and_true, true_and, reduceIte, reduceCtorEq, eq_self, implies_true, forall_const, false_implies, imp_self, decide_true, decide_false, x80]
  exact ⟨by repeat' (first | exact Keep.refl _ | assumption | refine Keep.push' ?_ | refine Keep.set' ?_ ?_ | refine Keep.moved' ?_ ?_ | omega), runC a, [], rfl, ⟨rfl, rfl⟩, List.nodup_nil, fun i hi => by cases hi⟩
theorem elemRun : Elem rRun true 4 := ⟨rfl, by omega, fun _ _ => rfl, fun h => by cases h⟩
theorem toRunS_is : IsTo Try.prog (rSlc rRun) 52 := toCall_is (agg := true) (sz := 4) (bytes := 32) (zs := [.int .i64 0, .int .i64 0, .int .i64 0, .int .i64 0]) c52 (by omega) rfl elemRun toRun_is
theorem eqRun_is : IsEq Try.prog rRun 77 := by
  intro H cs ds a hrd hrd2 _
  have e : cs = runC a := hrd
  have e2 : ds = runC a := hrd2
  subst e e2
  refine Run.intro c77 rfl ?_
  simp only [run_val]
  simp (maxSteps := 4000000) (disch := omega) only [Zq, evO, vbox, wr, Zeq, if_true, if_false, Nat.reduceEqDiff, Nat.reduceAdd, Nat.reduceLeDiff, Nat.reduceSub, and_self, and_true, true_and, reduceIte, reduceCtorEq, eq_self, implies_true, forall_const, false_implies, imp_self, decide_true, decide_false, x77, vbinB_ne]
  try repeat' (first | exact Keep.refl _ | assumption | refine Keep.push' ?_ | refine Keep.set' ?_ ?_ | refine Keep.moved' ?_ ?_ | omega)
theorem eqRunS_is : IsEq Try.prog (rSlc rRun) 45 := eqCall_is (agg := true) (sz := 4) c45 elemRun eqRun_is
end Go.Proofs.Ytjjglonmaajjoaa.AX
