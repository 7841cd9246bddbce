/- Ops one behind the other on a bare locking, of the program; helpers of ops; bare lockings. No condition beyond each law's own; of the program: the functions' forms. -/
import Derived.Test.YthjphddodooahaaPln
import Derived.Test.YthjphddodooahaaPlj
import Derived.Test.YthjphddodooahaaPlk
import Derived.Test.YthjphddodooahaaPlm
import Derived.Test.YthjphddodooahaaRpl
namespace Go.Proofs.Ythjphddodooahaa.AX
open Go
set_option maxRecDepth 10000
set_option maxHeartbeats 4000000
set_option linter.unusedSimpArgs false
set_option linter.unusedVariables false
-- LockOp
def lockOpC (x : Int × Int) : List Value := [.int .i64 x.1, .int .i64 x.2]
theorem lockOpC_len (x : Int × Int) : (lockOpC x).length = 2 := rfl
def lockOpM (x : Int × Int) (k : Nat) : (Int × Int) × Nat := ((((k + 0 : Nat) : Int), ((k + 1 : Nat) : Int)), k + 2)
abbrev rLockOp : Rep (Int × Int) := flatRep lockOpC 2 lockOpC_len lockOpM
theorem lockOp_val (x : Int × Int) : rLockOp.val (lockOpC x) = .agg #[.int .i64 x.1, .int .i64 x.2] := nofl rfl
theorem marB_LockOp : MarB rLockOp := fun x k => by show k + 2 ≤ _; omega
theorem szLockOpS_is : IsSz Try.prog (rSlc rLockOp) 37 := szFlat_is c37 (fun _ => rfl)
theorem toLockOp_is : IsTo Try.prog rLockOp 71 := by
  intro H cs a hrd _
  have e : cs = lockOpC a := hrd
  subst e
  refine Run.intro c71 rfl ?_
  simp only [lockOp_val]
  simp (maxSteps := 4000000) (disch := omega) only [Zq, evO, vbox, wr, Zeq, if_true, if_false, Nat.reduceEqDiff, Nat.reduceAdd, Nat.reduceLeDiff, Nat.reduceSub, and_self, and_true, true_and, reduceIte, reduceCtorEq, eq_self, implies_true, forall_const, false_implies, imp_self, decide_true, decide_false, x71]
  exact ⟨by repeat' (first | exact Keep.refl _ | assumption | refine Keep.push' ?_ | refine Keep.set' ?_ ?_ | refine Keep.moved' ?_ ?_ | omega), lockOpC a, [], rfl, ⟨rfl, rfl⟩, List.nodup_nil, fun i hi => by cases hi⟩
theorem elemLockOp : Elem rLockOp true 2 := ⟨rfl, by omega, fun _ _ => rfl, fun h => by cases h⟩
theorem toLockOpS_is : IsTo Try.prog (rSlc rLockOp) 38 := toCall_is (agg := true) (sz := 2) (bytes := 16) (zs := [.int .i64 0, .int .i64 0]) c38 (by omega) rfl elemLockOp toLockOp_is
theorem eqLockOp_is : IsEq Try.prog rLockOp 72 := by
  intro H cs ds a hrd hrd2 _
  have e : cs = lockOpC a := hrd
  have e2 : ds = lockOpC a := hrd2
  subst e e2
  refine Run.intro c72 rfl ?_
  simp only [lockOp_val]
  simp (maxSteps := 4000000) (disch := omega) only [Zq, evO, vbox, wr, Zeq, if_true, if_false, Nat.reduceEqDiff, Nat.reduceAdd, Nat.reduceLeDiff, Nat.reduceSub, and_self, and_true, true_and, reduceIte, reduceCtorEq, eq_self, implies_true, forall_const, false_implies, imp_self, decide_true, decide_false, x72, vbinB_ne]
  try repeat' (first | exact Keep.refl _ | assumption | refine Keep.push' ?_ | refine Keep.set' ?_ ?_ | refine Keep.moved' ?_ ?_ | omega)
theorem eqLockOpS_is : IsEq Try.prog (rSlc rLockOp) 40 := eqCall_is (agg := true) (sz := 2) c40 elemLockOp eqLockOp_is
def markLockOpSB : X := (.seq (.reg [(.mk (.some 12) (.mov (.tmp 0)) none), (.mk (.some 13) (.mov (.tmp 5)) none), (.mk (.some 14) (.mov (.tmp 1)) none), (.mk (.some 15) (.idx 2 (.tmp 12) (.tmp 13)) none), (.mk (.some 16) (.fad 0 (.tmp 15)) none), (.mk none (.store 1 (.tmp 16) (.tmp 14)) none)]) (.seq (.reg [(.mk (.some 17) (.mov (.tmp 1)) none), (.mk (.some 18) (.bin (.add) (.tmp 17) (.const (.int (.i64) 1))) none), (.mk (.some 1) (.mov (.tmp 18)) none)]) (.seq (.reg [(.mk (.some 19) (.mov (.tmp 0)) none), (.mk (.some 20) (.mov (.tmp 5)) none), (.mk (.some 21) (.mov (.tmp 1)) none), (.mk (.some 22) (.idx 2 (.tmp 19) (.tmp 20)) none), (.mk (.some 23) (.fad 1 (.tmp 22)) none), (.mk none (.store 1 (.tmp 23) (.tmp 21)) none)]) (.reg [(.mk (.some 24) (.mov (.tmp 1)) none), (.mk (.some 25) (.bin (.add) (.tmp 24) (.const (.int (.i64) 1))) none), (.mk (.some 1) (.mov (.tmp 25)) none)]))))
theorem markLockOpSB_is : BMark Try.prog rLockOp markLockOpSB := by
  rintro p i n o k P0 Q0 row ⟨x0, x1⟩ F ks Q T H t0 t1 t5 hi hP hp hg hown hnd hpF hk K
  have t0 : T 0 = .slice (some ⟨p, o, none⟩) n 2 := t0
  have hP : P0.length = o + i * 2 := hP
  obtain ⟨e0, e1⟩ : row = [.int .i64 x0, .int .i64 x1] ∧ F = [] := hown
  subst e0 e1
  have s0 : ∀ H1 : Heap, stO H1 1 p (o + i * 2) (.int .i64 ((k : Nat) : Int)) (some (.own (mid P0 [.int .i64 x0, .int .i64 x1] Q0))) = some (undef, H1.set p (mid P0 [.int .i64 ((k : Nat) : Int), .int .i64 x1] Q0)) := fun H1 => by exact stO_mid (B := [.int .i64 x0, .int .i64 x1]) (o := 0) rfl hP (by simp)
  have s1 : ∀ H1 : Heap, stO H1 1 p (o + (i * 2 + 1)) (.int .i64 (((k + 1) : Nat) : Int)) (some (.own (mid P0 [.int .i64 ((k : Nat) : Int), .int .i64 x1] Q0))) = some (undef, H1.set p (mid P0 [.int .i64 ((k : Nat) : Int), .int .i64 (((k + 1) : Nat) : Int)] Q0)) := fun H1 => by rw [← Nat.add_assoc]; exact stO_mid (B := [.int .i64 ((k : Nat) : Int), .int .i64 x1]) (o := 1) rfl hP (by simp)
  have C0 : Chg (p :: ([])) H H := Chg.refl _ _
  simp (maxSteps := 4000000) (disch := omega) only [Zq, evO, vbox, wr, Zeq, if_true, if_false, Nat.reduceEqDiff, Nat.reduceAdd, Nat.reduceLeDiff, Nat.reduceSub, and_self, and_true, true_and, reduceIte, reduceCtorEq, eq_self, implies_true, forall_const, false_implies, imp_self, decide_true, decide_false, markLockOpSB, t0, t1, t5, Zfo hi, Zfo, s0, s1, hg]
  refine K _ _ [.int .i64 ((k : Nat) : Int), .int .i64 (((k + 1) : Nat) : Int)] ?_ ?_ ?_ ?_ ?_ ⟨rfl, rfl⟩
  · simp (maxSteps := 4000000) (disch := omega) only [Zq, evO, vbox, wr, Zeq, if_true, if_false, Nat.reduceEqDiff, Nat.reduceAdd, Nat.reduceLeDiff, Nat.reduceSub, and_self, and_true, true_and, reduceIte, reduceCtorEq, eq_self, implies_true, forall_const, false_implies, imp_self, decide_true, decide_false, t0]
  · simp (maxSteps := 4000000) (disch := omega) only [Zq, evO, vbox, wr, Zeq, if_true, if_false, Nat.reduceEqDiff, Nat.reduceAdd, Nat.reduceLeDiff, Nat.reduceSub, and_self, and_true, true_and, reduceIte, reduceCtorEq, eq_self, implies_true, forall_const, false_implies, imp_self, decide_true, decide_false, t5]
  · simp (maxSteps := 4000000) (disch := omega) only [Zq, evO, vbox, wr, Zeq, if_true, if_false, Nat.reduceEqDiff, Nat.reduceAdd, Nat.reduceLeDiff, Nat.reduceSub, and_self, and_true, true_and, reduceIte, reduceCtorEq, eq_self, implies_true, forall_const, false_implies, imp_self, decide_true, decide_false, t1]
    try rfl
  · repeat' (first | exact Chg.refl _ _ | refine Chg.trans ?_ (Chg.set (by simp)))
  · simp only [Zbi, if_true]
theorem markLockOpS_is : IsMark Try.prog (rSlc rLockOp) (rSlc rLockOp).mar 41 := markSlc_is (A := 26) (body := markLockOpSB) c41 marB_LockOp markLockOpSB_is
section
variable {H : Heap} {vu vr : Value} {under : List Int} {b : Int} {routes : List Rt}
theorem r_impl_Bare (hu : (rSlc rInt).rd H [vu] under) (hr : (rSlc rRoute).rd H [vr] routes) (tt : rPlant.tot (under, b, routes) ≤ 1048576) (hpl : plOk under b routes = true) : Run Try.prog 12 [.agg #[vu, .int .i64 b, vr]] H fun r H' => Keep H H' ∧ ∃ cs F, r = rLocking.val cs ∧ rLocking.own H' cs (bareR under b routes) F ∧ Fresh H H' F := by
  obtain ⟨b1, b2, u16, r12, _, _⟩ := plOk_get hpl
  obtain ⟨n, rfl⟩ : ∃ n : Nat, b = n := ⟨b.toNat, by omega⟩
  have lr : ∀ H : Heap, vlen H vr = some (.int .i64 routes.length, H) := fun _ => slc_len hr
  have lu : ∀ H : Heap, vlen H vu = some (.int .i64 under.length, H) := fun _ => slc_len hu
  refine Run.intro c12 rfl ?_
  simp (maxSteps := 4000000) (disch := omega) only [Zq, evO, vbox, wr, Zeq, if_true, if_false, Nat.reduceEqDiff, Nat.reduceAdd, Nat.reduceLeDiff, Nat.reduceSub, and_self, and_true, true_and, reduceIte, reduceCtorEq, eq_self, implies_true, forall_const, false_implies, imp_self, decide_true, decide_false, x12]
  generalize hG0 : (H.push [vu, .int .i64 (n : Int), vr]).push [.slice none 0 0, .slice none 0 0, .slice none 0 0] = H0
  have k0 : Keep H H0 := by rw [← hG0]; repeat' (first | exact Keep.refl _ | assumption | refine Keep.push' ?_ | refine Keep.set' ?_ ?_ | refine Keep.moved' ?_ ?_ | omega)
  have g0 : H0.get H.nxt = some (.own [vu, .int .i64 (n : Int), vr]) := by rw [← hG0]; simp (maxSteps := 4000000) (disch := omega) only [Zq, evO, vbox, wr, Zeq, if_true, if_false, Nat.reduceEqDiff, Nat.reduceAdd, Nat.reduceLeDiff, Nat.reduceSub, and_self, and_true, true_and, reduceIte, reduceCtorEq, eq_self, implies_true, forall_const, false_implies, imp_self, decide_true, decide_false]
  have g0r : H0.get (H.nxt + 1) = some (.own [.slice none 0 0, .slice none 0 0, .slice none 0 0]) := by rw [← hG0]; simp (maxSteps := 4000000) (disch := omega) only [Zq, evO, vbox, wr, Zeq, if_true, if_false, Nat.reduceEqDiff, Nat.reduceAdd, Nat.reduceLeDiff, Nat.reduceSub, and_self, and_true, true_and, reduceIte, reduceCtorEq, eq_self, implies_true, forall_const, false_implies, imp_self, decide_true, decide_false]
  have n0 : H0.nxt = H.nxt + 2 := by rw [← hG0]; simp only [Zbg]
  clear hG0
  refine GO_call ((r_impl_PlantOk ((rSlc rInt).rdk hu k0) ((rSlc rRoute).rdk hr k0) tt).mono ?_)
  rintro _ H1 ⟨k1, rfl⟩
  have n1 := k1.nxt
  have g1 := (k1.get (H.nxt) (by omega)).trans g0
  have g1r := (k1.get (H.nxt + 1) (by omega)).trans g0r
  simp (maxSteps := 4000000) (disch := omega) only [Zq, evO, vbox, wr, Zeq, if_true, if_false, Nat.reduceEqDiff, Nat.reduceAdd, Nat.reduceLeDiff, Nat.reduceSub, and_self, and_true, true_and, reduceIte, reduceCtorEq, eq_self, implies_true, forall_const, false_implies, imp_self, decide_true, decide_false, fix_nil, fix_cons, g0, g0r, g1, g1r, hpl]
  have o1 := own_mks (r := rInt) (H := H1) (z := [.int .i64 0]) (x0 := 0) ⟨rfl, rfl⟩ under.length
  generalize hA : H1.push (List.replicate under.length [Value.int .i64 0]).flatten = HA at *
  have kA : Keep H1 HA := by rw [← hA]; exact Keep.push _ _
  have nA : HA.nxt = H1.nxt + 1 := by rw [← hA, Zbg]
  have o2 := own_mks (r := rBool) (H := HA) (z := [.bool false]) (x0 := false) ⟨rfl, rfl⟩ routes.length
  generalize hB : HA.push (List.replicate routes.length [Value.bool false]).flatten = HB at *
  have kB : Keep HA HB := by rw [← hB]; exact Keep.push _ _
  have nB : HB.nxt = HA.nxt + 1 := by rw [← hB, Zbg]
  have o3 := own_mks (r := rBool) (H := HB) (z := [.bool false]) (x0 := false) ⟨rfl, rfl⟩ n
  generalize hC : HB.push (List.replicate n [Value.bool false]).flatten = HC at *
  have kC : Keep HB HC := by rw [← hC]; exact Keep.push _ _
  have nC : HC.nxt = HB.nxt + 1 := by rw [← hC, Zbg]
  have g21 := (kA.get H.nxt (by omega)).trans g1
  have g22 := (kB.get H.nxt (by omega)).trans g21
  have g23 : HC.get (H.nxt + 1) = some (.own [.slice none 0 0, .slice none 0 0, .slice none 0 0]) := by rw [kC.get _ (by omega), kB.get _ (by omega), kA.get _ (by omega)]; exact g1r
  simp (maxSteps := 4000000) (disch := omega) only [ZD, Zio, Zip, pre_, beq_self_eq_true, Nat.reduceBEq, Zq, evO, vbox, wr, Zeq, if_true, if_false, Nat.reduceEqDiff, Nat.reduceAdd, Nat.reduceLeDiff, Nat.reduceSub, and_self, and_true, true_and, reduceIte, reduceCtorEq, eq_self, implies_true, forall_const, false_implies, imp_self, decide_true, decide_false, fix_nil, fix_cons, g0, g0r, g1, g1r, g21, g22, g23, G_dreg, lu, lr, hA, hB, hC]
  first | with_reducible refine And.intro (by repeat' (first | apply And.intro | omega)) ?_ | skip
  have o1' := (rSlc rInt).ownKeep o1 (kB.trans kC)
  have o2' := (rSlc rBool).ownKeep o2 kC
  have o3' := o3
  have e : bareR under (n : Int) routes = (List.replicate under.length 0, List.replicate routes.length false, List.replicate n false) := by rw [bareR, Int.toNat_natCast]
  have hF : ∀ a ∈ [H1.nxt] ++ ([HA.nxt] ++ [HB.nxt]), H1.nxt ≤ a ∧ a < HC.nxt := fun a ha => by
    simp at ha
    omega
  rw [e]
  refine ⟨(k0.trans (k1.trans (kA.trans (kB.trans kC)))).set' (by omega), _, [H1.nxt] ++ ([HA.nxt] ++ [HB.nxt]), rfl, rLocking.ownk (locking_own' o1' o2' o3') (by rw [Zbh]; omega) (fun a ha => ?_), by simp; omega, fun a ha => ?_⟩
  · have := hF a ha
    rw [Zbi, if_neg (by omega)]
  · have := hF a ha
    rw [Zbh]
    omega
theorem repl_succ {α : Type} (n : Nat) (a : α) : List.replicate n a ++ [a] = List.replicate (n + 1) a := List.replicate_succ'.symm
theorem r_spec_Bare (hu : (rSlc rInt).rd H [vu] under) (hr : (rSlc rRoute).rd H [vr] routes) (tt : rPlant.tot (under, b, routes) ≤ 1048576) (hpl : plOk under b routes = true) : Run Try.prog 54 [.agg #[vu, .int .i64 b, vr]] H fun r H' => Keep H H' ∧ ∃ cs F, r = rLocking.val cs ∧ rLocking.own H' cs (bareR under b routes) F ∧ Fresh H H' F := by
  obtain ⟨b1, b2, u16, r12, _, _⟩ := plOk_get hpl
  obtain ⟨n, rfl⟩ : ∃ n : Nat, b = n := ⟨b.toNat, by omega⟩
  have lr : ∀ H : Heap, vlen H vr = some (.int .i64 routes.length, H) := fun _ => slc_len hr
  have lu : ∀ H : Heap, vlen H vu = some (.int .i64 under.length, H) := fun _ => slc_len hu
  refine Run.intro c54 rfl ?_
  simp (maxSteps := 4000000) (disch := omega) only [Zq, evO, vbox, wr, Zeq, if_true, if_false, Nat.reduceEqDiff, Nat.reduceAdd, Nat.reduceLeDiff, Nat.reduceSub, and_self, and_true, true_and, reduceIte, reduceCtorEq, eq_self, implies_true, forall_const, false_implies, imp_self, decide_true, decide_false, x54]
  generalize hG0 : (((H.push [vu, .int .i64 (n : Int), vr]).push [.slice none 0 0, .slice none 0 0, .slice none 0 0]).push [.slice none 0 0, .slice none 0 0, .slice none 0 0]).set (H.nxt + 2) [.slice none 0 0, .slice none 0 0, .slice none 0 0] = H0
  have k0 : Keep H H0 := by rw [← hG0]; repeat' (first | exact Keep.refl _ | assumption | refine Keep.push' ?_ | refine Keep.set' ?_ ?_ | refine Keep.moved' ?_ ?_ | omega)
  have g0 : H0.get H.nxt = some (.own [vu, .int .i64 (n : Int), vr]) := by rw [← hG0]; simp (maxSteps := 4000000) (disch := omega) only [Zq, evO, vbox, wr, Zeq, if_true, if_false, Nat.reduceEqDiff, Nat.reduceAdd, Nat.reduceLeDiff, Nat.reduceSub, and_self, and_true, true_and, reduceIte, reduceCtorEq, eq_self, implies_true, forall_const, false_implies, imp_self, decide_true, decide_false]
  have g0r : H0.get (H.nxt + 1) = some (.own [.slice none 0 0, .slice none 0 0, .slice none 0 0]) := by rw [← hG0]; simp (maxSteps := 4000000) (disch := omega) only [Zq, evO, vbox, wr, Zeq, if_true, if_false, Nat.reduceEqDiff, Nat.reduceAdd, Nat.reduceLeDiff, Nat.reduceSub, and_self, and_true, true_and, reduceIte, reduceCtorEq, eq_self, implies_true, forall_const, false_implies, imp_self, decide_true, decide_false]
  have g0q : H0.get (H.nxt + 2) = some (.own [.slice none 0 0, .slice none 0 0, .slice none 0 0]) := by rw [← hG0]; simp (maxSteps := 4000000) (disch := omega) only [Zq, evO, vbox, wr, Zeq, if_true, if_false, Nat.reduceEqDiff, Nat.reduceAdd, Nat.reduceLeDiff, Nat.reduceSub, and_self, and_true, true_and, reduceIte, reduceCtorEq, eq_self, implies_true, forall_const, false_implies, imp_self, decide_true, decide_false]
  have n0 : H0.nxt = H.nxt + 3 := by rw [← hG0]; simp only [Zbg, Zbh]
  clear hG0
  refine GO_call ((r_spec_PlantOk ((rSlc rInt).rdk hu k0) ((rSlc rRoute).rdk hr k0) tt).mono ?_)
  rintro _ H1 ⟨k1, rfl⟩
  have n1 := k1.nxt
  have g1 := (k1.get (H.nxt) (by omega)).trans g0
  have g1r := (k1.get (H.nxt + 1) (by omega)).trans g0r
  have g1q := (k1.get (H.nxt + 2) (by omega)).trans g0q
  simp (maxSteps := 4000000) (disch := omega) only [Zq, evO, vbox, wr, Zeq, if_true, if_false, Nat.reduceEqDiff, Nat.reduceAdd, Nat.reduceLeDiff, Nat.reduceSub, and_self, and_true, true_and, reduceIte, reduceCtorEq, eq_self, implies_true, forall_const, false_implies, imp_self, decide_true, decide_false, fix_nil, fix_cons, g0, g0r, g0q, g1, g1r, g1q, hpl]
  have k01 := k0.trans k1
  clear k1 k0 g0 g0r g0q
  refine G_forF [1, 2, 3] (under.length) (fun i T H3 => T 4 = .int .i64 (i : Int) ∧ Chg [H.nxt + 2] H1 H3 ∧ ∃ u F1, H3.get (H.nxt + 2) = some (.own [u, .slice none 0 0, .slice none 0 0]) ∧ (rSlc rInt).own H3 [u] (List.replicate i 0) F1 ∧ F1.Nodup ∧ ∀ a ∈ F1, H1.nxt ≤ a ∧ a < H3.nxt) 0 (Nat.zero_le _) ?_ ?_
  · simp (maxSteps := 4000000) (disch := omega) only [Zq, evO, vbox, wr, Zeq, if_true, if_false, Nat.reduceEqDiff, Nat.reduceAdd, Nat.reduceLeDiff, Nat.reduceSub, and_self, and_true, true_and, reduceIte, reduceCtorEq, eq_self, implies_true, forall_const, false_implies, imp_self, decide_true, decide_false, fix_nil, fix_cons, g1, g1r, g1q]
    exact ⟨Chg.refl _ _, _, [], rfl, .inl ⟨rfl, rfl, rfl⟩, by simp, fun a ha => by cases ha⟩
  rintro i T H3 hi hT ⟨t4, cH3, u, F1, g3q, oH3, ndH3, fH3⟩
  simp only [fix_nil, fix_cons, Zq, evO, vbox, wr, Zeq, if_true, if_false, Nat.reduceEqDiff, Nat.reduceAdd, Nat.reduceLeDiff, Nat.reduceSub, and_self, and_true, true_and, reduceIte, reduceCtorEq, eq_self, implies_true, forall_const, false_implies, imp_self, decide_true, decide_false] at hT
  obtain ⟨t1, t2, t3⟩ := hT
  have nH3 := cH3.nxt
  have kkH3 : Keep H H3 := cH3.keep k01 (fun i hi => by simp at hi; omega)
  have g3a := (cH3.get H.nxt (by omega) (by simp)).trans g1
  have g3r := (cH3.get (H.nxt + 1) (by omega) (by simp)).trans g1r
  by_cases hin : i < under.length
  · obtain ⟨x, H5, F5, e5, o5, c5, f5, nd5, _⟩ := own_app (bytes := 8) (r := rInt) (sz := 1) rfl (by omega) oH3 (row := [.int .i64 0]) (y := 0) (G := []) ⟨rfl, rfl⟩ ndH3 (by simp) (by simp) (by rw [List.length_replicate]; omega)
    rw [repl_succ] at o5
    have n5 := c5.nxt
    have old : ∀ a, a < H3.nxt → a ∉ F1 → H5.get a = H3.get a := fun a ha hF => c5.get a ha hF
    have g5 := (old (H.nxt + 2) (by omega) (fun h => by have := fH3 _ h; omega)).trans g3q
    obtain ⟨xa, xb⟩ := slc_cell ((rSlc rInt).ownrd o5)
    simp (maxSteps := 4000000) (disch := omega) only [Zq, evO, vbox, wr, Zeq, if_true, if_false, Nat.reduceEqDiff, Nat.reduceAdd, Nat.reduceLeDiff, Nat.reduceSub, and_self, and_true, true_and, reduceIte, reduceCtorEq, eq_self, implies_true, forall_const, false_implies, imp_self, decide_true, decide_false, fix_nil, fix_cons, g1, g1r, g1q, t1, t2, t3, t4, g3q, g3a, g3r, g5, lu, lr, Zff, e5, xa, xb]
    refine ⟨hin, ⟨by rw [Zbh]; omega, fun a ha hne => ?_⟩, x, F5, rfl, (rSlc rInt).ownk o5 (by rw [Zbh]; omega) (fun a ha => ?_), nd5, fun a ha => ?_⟩
    · rw [Zbi, if_neg (by simpa using hne), old a (by omega) (fun h => by have := fH3 _ h; omega), cH3.get a ha hne]
    · rw [Zbi, if_neg]
      rcases f5 a ha with h | h | h
      · have := fH3 a h; omega
      · simp at h
      · omega
    · rcases f5 a ha with h | h | h
      · have := fH3 a h; omega
      · simp at h
      · omega
  obtain rfl : i = under.length := by omega
  simp (maxSteps := 4000000) (disch := omega) only [Zq, evO, vbox, wr, Zeq, if_true, if_false, Nat.reduceEqDiff, Nat.reduceAdd, Nat.reduceLeDiff, Nat.reduceSub, and_self, and_true, true_and, reduceIte, reduceCtorEq, eq_self, implies_true, forall_const, false_implies, imp_self, decide_true, decide_false, fix_nil, fix_cons, g1, g1r, g1q, t1, t2, t3, t4, g3q, g3a, g3r, lu, lr]
  clear hi hin t4 g1 g1q g1r
  refine G_forF [1, 2, 3] (routes.length) (fun i T H4 => T 5 = .int .i64 (i : Int) ∧ Chg [H.nxt + 2] H3 H4 ∧ ∃ w F2, H4.get (H.nxt + 2) = some (.own [u, w, .slice none 0 0]) ∧ (rSlc rBool).own H4 [w] (List.replicate i false) F2 ∧ F2.Nodup ∧ ∀ a ∈ F2, H3.nxt ≤ a ∧ a < H4.nxt) 0 (Nat.zero_le _) ?_ ?_
  · simp (maxSteps := 4000000) (disch := omega) only [Zq, evO, vbox, wr, Zeq, if_true, if_false, Nat.reduceEqDiff, Nat.reduceAdd, Nat.reduceLeDiff, Nat.reduceSub, and_self, and_true, true_and, reduceIte, reduceCtorEq, eq_self, implies_true, forall_const, false_implies, imp_self, decide_true, decide_false, fix_nil, fix_cons, t1, t2, t3, g3q, g3a, g3r]
    exact ⟨Chg.refl _ _, _, [], rfl, .inl ⟨rfl, rfl, rfl⟩, by simp, fun a ha => by cases ha⟩
  rintro i T H4 hi hT ⟨t5, cH4, w, F2, g4q, oH4, ndH4, fH4⟩
  simp only [fix_nil, fix_cons, Zq, evO, vbox, wr, Zeq, if_true, if_false, Nat.reduceEqDiff, Nat.reduceAdd, Nat.reduceLeDiff, Nat.reduceSub, and_self, and_true, true_and, reduceIte, reduceCtorEq, eq_self, implies_true, forall_const, false_implies, imp_self, decide_true, decide_false, t1, t2, t3] at hT
  obtain ⟨t1, t2, t3⟩ := hT
  have nH4 := cH4.nxt
  have kkH4 : Keep H H4 := cH4.keep kkH3 (fun i hi => by simp at hi; omega)
  have g4a := (cH4.get H.nxt (by omega) (by simp)).trans g3a
  have g4r := (cH4.get (H.nxt + 1) (by omega) (by simp)).trans g3r
  by_cases hin : i < routes.length
  · obtain ⟨x, H5, F5, e5, o5, c5, f5, nd5, _⟩ := own_app (bytes := 1) (r := rBool) (sz := 1) rfl (by omega) oH4 (row := [.bool false]) (y := false) (G := []) ⟨rfl, rfl⟩ ndH4 (by simp) (by simp) (by rw [List.length_replicate]; omega)
    rw [repl_succ] at o5
    have n5 := c5.nxt
    have old : ∀ a, a < H4.nxt → a ∉ F2 → H5.get a = H4.get a := fun a ha hF => c5.get a ha hF
    have g5 := (old (H.nxt + 2) (by omega) (fun h => by have := fH4 _ h; omega)).trans g4q
    obtain ⟨xa, xb⟩ := slc_cell ((rSlc rBool).ownrd o5)
    simp (maxSteps := 4000000) (disch := omega) only [Zq, evO, vbox, wr, Zeq, if_true, if_false, Nat.reduceEqDiff, Nat.reduceAdd, Nat.reduceLeDiff, Nat.reduceSub, and_self, and_true, true_and, reduceIte, reduceCtorEq, eq_self, implies_true, forall_const, false_implies, imp_self, decide_true, decide_false, fix_nil, fix_cons, t1, t2, t3, g3q, g3a, g3r, t5, g4q, g4a, g4r, g5, lu, lr, Zff, e5, xa, xb]
    refine ⟨hin, ⟨by rw [Zbh]; omega, fun a ha hne => ?_⟩, x, F5, rfl, (rSlc rBool).ownk o5 (by rw [Zbh]; omega) (fun a ha => ?_), nd5, fun a ha => ?_⟩
    · rw [Zbi, if_neg (by simpa using hne), old a (by omega) (fun h => by have := fH4 _ h; omega), cH4.get a ha hne]
    · rw [Zbi, if_neg]
      rcases f5 a ha with h | h | h
      · have := fH4 a h; omega
      · simp at h
      · omega
    · rcases f5 a ha with h | h | h
      · have := fH4 a h; omega
      · simp at h
      · omega
  obtain rfl : i = routes.length := by omega
  simp (maxSteps := 4000000) (disch := omega) only [Zq, evO, vbox, wr, Zeq, if_true, if_false, Nat.reduceEqDiff, Nat.reduceAdd, Nat.reduceLeDiff, Nat.reduceSub, and_self, and_true, true_and, reduceIte, reduceCtorEq, eq_self, implies_true, forall_const, false_implies, imp_self, decide_true, decide_false, fix_nil, fix_cons, t1, t2, t3, g3q, g3a, g3r, t5, g4q, g4a, g4r, lu, lr]
  clear hi hin t5 g3q g3a g3r
  refine G_forF [1, 2, 3] (n) (fun i T H6 => T 6 = .int .i64 (i : Int) ∧ Chg [H.nxt + 2] H4 H6 ∧ ∃ z F3, H6.get (H.nxt + 2) = some (.own [u, w, z]) ∧ (rSlc rBool).own H6 [z] (List.replicate i false) F3 ∧ F3.Nodup ∧ ∀ a ∈ F3, H4.nxt ≤ a ∧ a < H6.nxt) 0 (Nat.zero_le _) ?_ ?_
  · simp (maxSteps := 4000000) (disch := omega) only [Zq, evO, vbox, wr, Zeq, if_true, if_false, Nat.reduceEqDiff, Nat.reduceAdd, Nat.reduceLeDiff, Nat.reduceSub, and_self, and_true, true_and, reduceIte, reduceCtorEq, eq_self, implies_true, forall_const, false_implies, imp_self, decide_true, decide_false, fix_nil, fix_cons, t1, t2, t3, g4q, g4a, g4r]
    exact ⟨Chg.refl _ _, _, [], rfl, .inl ⟨rfl, rfl, rfl⟩, by simp, fun a ha => by cases ha⟩
  rintro i T H6 hi hT ⟨t6, cH6, z, F3, g6q, oH6, ndH6, fH6⟩
  simp only [fix_nil, fix_cons, Zq, evO, vbox, wr, Zeq, if_true, if_false, Nat.reduceEqDiff, Nat.reduceAdd, Nat.reduceLeDiff, Nat.reduceSub, and_self, and_true, true_and, reduceIte, reduceCtorEq, eq_self, implies_true, forall_const, false_implies, imp_self, decide_true, decide_false, t1, t2, t3] at hT
  obtain ⟨t1, t2, t3⟩ := hT
  have nH6 := cH6.nxt
  have kkH6 : Keep H H6 := cH6.keep kkH4 (fun i hi => by simp at hi; omega)
  have g6a := (cH6.get H.nxt (by omega) (by simp)).trans g4a
  have g6r := (cH6.get (H.nxt + 1) (by omega) (by simp)).trans g4r
  by_cases hin : i < n
  · obtain ⟨x, H5, F5, e5, o5, c5, f5, nd5, _⟩ := own_app (bytes := 1) (r := rBool) (sz := 1) rfl (by omega) oH6 (row := [.bool false]) (y := false) (G := []) ⟨rfl, rfl⟩ ndH6 (by simp) (by simp) (by rw [List.length_replicate]; omega)
    rw [repl_succ] at o5
    have n5 := c5.nxt
    have old : ∀ a, a < H6.nxt → a ∉ F3 → H5.get a = H6.get a := fun a ha hF => c5.get a ha hF
    have g5 := (old (H.nxt + 2) (by omega) (fun h => by have := fH6 _ h; omega)).trans g6q
    obtain ⟨xa, xb⟩ := slc_cell ((rSlc rBool).ownrd o5)
    simp (maxSteps := 4000000) (disch := omega) only [Zq, evO, vbox, wr, Zeq, if_true, if_false, Nat.reduceEqDiff, Nat.reduceAdd, Nat.reduceLeDiff, Nat.reduceSub, and_self, and_true, true_and, reduceIte, reduceCtorEq, eq_self, implies_true, forall_const, false_implies, imp_self, decide_true, decide_false, fix_nil, fix_cons, t1, t2, t3, g4q, g4a, g4r, t6, g6q, g6a, g6r, g5, lu, lr, Zff, e5, xa, xb]
    refine ⟨hin, ⟨by rw [Zbh]; omega, fun a ha hne => ?_⟩, x, F5, rfl, (rSlc rBool).ownk o5 (by rw [Zbh]; omega) (fun a ha => ?_), nd5, fun a ha => ?_⟩
    · rw [Zbi, if_neg (by simpa using hne), old a (by omega) (fun h => by have := fH6 _ h; omega), cH6.get a ha hne]
    · rw [Zbi, if_neg]
      rcases f5 a ha with h | h | h
      · have := fH6 a h; omega
      · simp at h
      · omega
    · rcases f5 a ha with h | h | h
      · have := fH6 a h; omega
      · simp at h
      · omega
  obtain rfl : i = n := by omega
  have o1 := (rSlc rInt).ownChg ((rSlc rInt).ownChg oH3 cH4 (fun a ha hm => by have := fH3 a ha; simp at hm; omega)) cH6 (fun a ha hm => by have := fH3 a ha; simp at hm; omega)
  have o2 := (rSlc rBool).ownChg oH4 cH6 (fun a ha hm => by have := fH4 a ha; simp at hm; omega)
  obtain ⟨ua, ub⟩ := slc_cell ((rSlc rInt).ownrd o1)
  obtain ⟨wa, wb⟩ := slc_cell ((rSlc rBool).ownrd o2)
  obtain ⟨za, zb⟩ := slc_cell ((rSlc rBool).ownrd oH6)
  simp (maxSteps := 4000000) (disch := omega) only [Zq, evO, vbox, wr, Zeq, if_true, if_false, Nat.reduceEqDiff, Nat.reduceAdd, Nat.reduceLeDiff, Nat.reduceSub, and_self, and_true, true_and, reduceIte, reduceCtorEq, eq_self, implies_true, forall_const, false_implies, imp_self, decide_true, decide_false, fix_nil, fix_cons, t1, t2, t3, g4q, g4a, g4r, t6, g6q, g6a, g6r, lu, lr, ua, ub, wa, wb, za, zb]
  have e : bareR under (i : Int) routes = (List.replicate under.length 0, List.replicate routes.length false, List.replicate i false) := by rw [bareR, Int.toNat_natCast]
  have hF : Fresh H1 H6 (F1 ++ (F2 ++ F3)) := fresh_app (H1 := H3) ⟨ndH3, fH3⟩ (fresh_app (H1 := H4) ⟨ndH4, fH4⟩ ⟨ndH6, fH6⟩ nH4 nH6) nH3 (by omega)
  rw [e]
  refine ⟨kkH6.set' (by omega), [u, w, z], F1 ++ (F2 ++ F3), rfl, ?_, hF.1, fun a ha => ?_⟩
  · refine rLocking.ownk (locking_own' o1 o2 oH6) (by rw [Zbh]; omega) (fun a ha => ?_)
    have := hF.2 a ha
    rw [Zbi, if_neg (by omega)]
  · have := hF.2 a ha
    rw [Zbh]
    omega
end
theorem r_impl_play {P : Nat → Prop} {B H : Heap} {q : Nat} {v w u vu vr : Value} {F0 F1 F2 : List Nat} {under : List Int} {b : Int} {routes : List Rt} {pos : List Int} {set tk : List Bool} {o : Int × Int} (kB : Keep B H) (hP : ∀ a, P a → B.nxt ≤ a) (hu : (rSlc rInt).rd B [vu] under) (hr : (rSlc rRoute).rd B [vr] routes) (tt : rPlant.tot (under, b, routes) ≤ 1048576) (hL : Lk P H q v w u F0 F1 F2 pos set tk) (hok : lkOk under b routes pos set tk = true) :
    Run Try.prog 52 [ptr q 0, .agg #[vu, .int .i64 b, vr], .agg #[.int .i64 o.1, .int .i64 o.2]] H fun x H' => KpP P H H' ∧ Lk P H' q v w u F0 F1 F2 (lkDo under b routes (pos, set, tk) o).1.1 (lkDo under b routes (pos, set, tk) o).1.2.1 (lkDo under b routes (pos, set, tk) o).1.2.2 ∧ x = .int .i64 (lkDo under b routes (pos, set, tk) o).2 := by
  obtain ⟨c, k⟩ := o
  unfold lkDo
  simp only
  by_cases h0 : c = 0
  · subst h0
    rw [if_pos rfl]
    exact play_0 kB hP hu hr tt hL hok
  rw [if_neg h0]
  by_cases h1 : c = 1
  · subst h1
    rw [if_pos rfl]
    exact play_1 kB hP hu hr tt hL hok
  rw [if_neg h1]
  by_cases h2 : c = 2
  · subst h2
    rw [if_pos rfl]
    exact play_2 kB hP hu hr tt hL hok
  rw [if_neg h2]
  by_cases h3 : c = 3
  · subst h3
    rw [if_pos rfl]
    exact play_3 kB hP hu hr tt hL hok
  rw [if_neg h3]
  refine Run.intro c52 rfl ?_
  simp (maxSteps := 4000000) (disch := omega) only [Zq, evO, vbox, wr, Zeq, if_true, if_false, Nat.reduceEqDiff, Nat.reduceAdd, Nat.reduceLeDiff, Nat.reduceSub, and_self, and_true, true_and, reduceIte, reduceCtorEq, eq_self, implies_true, forall_const, false_implies, imp_self, decide_true, decide_false, x52]
  generalize hG0 : (H.push [vu, .int .i64 b, vr]).push [.int .i64 c, .int .i64 k] = H0
  have k0 : Keep H H0 := by rw [← hG0]; repeat' (first | exact Keep.refl _ | assumption | refine Keep.push' ?_ | refine Keep.set' ?_ ?_ | refine Keep.moved' ?_ ?_ | omega)
  exact ⟨KpP.of k0, hL.keep k0⟩
/-- An element of a slice of ops. -/
theorem op_el {H : Heap} {v : Value} {ms : List (Int × Int)} {i : Nat} (h : (rSlc rLockOp).rd H [v] ms) (hi : i < ms.length) : vldN H 2 (adr v i 2 0) = some (.agg #[.int .i64 ms[i].1, .int .i64 ms[i].2], H) ∧ vld1 H (adr v i 2 0) = some (.int .i64 ms[i].1, H) ∧ vld1 H (adr v i 2 1) = some (.int .i64 ms[i].2, H) := by
  obtain ⟨row, h1, _, h2, h3⟩ := slc_el (sz := 2) rfl (by omega) h hi
  have e : row = lockOpC ms[i] := h1
  rw [h2, e]
  rw [e] at h3
  exact ⟨rfl, h3 0 _ rfl, h3 1 _ rfl⟩
theorem bad_own (H : Heap) : rLocking.own H [.slice none 0 0, .slice none 0 0, .slice none 0 0] ([], [], []) ([] ++ ([] ++ [])) := locking_own' (.inl ⟨rfl, rfl, rfl⟩) (.inl ⟨rfl, rfl, rfl⟩) (.inl ⟨rfl, rfl, rfl⟩)
theorem r_impl_PlayLock {H : Heap} {vu vr w : Value} {under : List Int} {b : Int} {routes : List Rt} {ops : List (Int × Int)} (hu : (rSlc rInt).rd H [vu] under) (hr : (rSlc rRoute).rd H [vr] routes) (h3 : (rSlc rLockOp).rd H [w] ops) (tt : rPlant.tot (under, b, routes) ≤ 1048576) (hl : ops.length ≤ 1048576) :
    Run Try.prog 20 [.agg #[vu, .int .i64 b, vr], w] H fun r H' => Keep H H' ∧ ∃ cs F cs1 F1, r = .tuple #[rLocking.val cs, (rSlc rInt).val cs1] ∧ rLocking.own H' cs (pkR (under, b, routes) ops).1 F ∧ Fresh H H' F ∧ (rSlc rInt).own H' cs1 (pkR (under, b, routes) ops).2 F1 ∧ Fresh H H' F1 ∧ ∀ i ∈ F, i ∉ F1 := by
  have lw : ∀ H : Heap, vlen H w = some (.int .i64 ops.length, H) := fun _ => slc_len h3
  refine Run.intro c20 rfl ?_
  simp (maxSteps := 4000000) (disch := omega) only [Zq, evO, vbox, wr, Zeq, if_true, if_false, Nat.reduceEqDiff, Nat.reduceAdd, Nat.reduceLeDiff, Nat.reduceSub, and_self, and_true, true_and, reduceIte, reduceCtorEq, eq_self, implies_true, forall_const, false_implies, imp_self, decide_true, decide_false, x20]
  generalize hG0 : (H.push [vu, .int .i64 b, vr]).push [.slice none 0 0, .slice none 0 0, .slice none 0 0] = H0
  have k0 : Keep H H0 := by rw [← hG0]; repeat' (first | exact Keep.refl _ | assumption | refine Keep.push' ?_ | refine Keep.set' ?_ ?_ | refine Keep.moved' ?_ ?_ | omega)
  have g0 : H0.get H.nxt = some (.own [vu, .int .i64 b, vr]) := by rw [← hG0]; simp (maxSteps := 4000000) (disch := omega) only [Zq, evO, vbox, wr, Zeq, if_true, if_false, Nat.reduceEqDiff, Nat.reduceAdd, Nat.reduceLeDiff, Nat.reduceSub, and_self, and_true, true_and, reduceIte, reduceCtorEq, eq_self, implies_true, forall_const, false_implies, imp_self, decide_true, decide_false]
  have g0r : H0.get (H.nxt + 1) = some (.own [.slice none 0 0, .slice none 0 0, .slice none 0 0]) := by rw [← hG0]; simp (maxSteps := 4000000) (disch := omega) only [Zq, evO, vbox, wr, Zeq, if_true, if_false, Nat.reduceEqDiff, Nat.reduceAdd, Nat.reduceLeDiff, Nat.reduceSub, and_self, and_true, true_and, reduceIte, reduceCtorEq, eq_self, implies_true, forall_const, false_implies, imp_self, decide_true, decide_false]
  have n0 : H0.nxt = H.nxt + 2 := by rw [← hG0]; simp only [Zbg]
  clear hG0
  refine GO_call ((r_impl_PlantOk ((rSlc rInt).rdk hu k0) ((rSlc rRoute).rdk hr k0) tt).mono ?_)
  rintro _ H1 ⟨k1, rfl⟩
  have n1 := k1.nxt
  have g1 := (k1.get (H.nxt) (by omega)).trans g0
  have g1r := (k1.get (H.nxt + 1) (by omega)).trans g0r
  have k01 := k0.trans k1
  have bad : pkR (under, b, routes) ops = (([], [], []), []) → Keep H (H1.set (H.nxt + 1) [.slice none 0 0, .slice none 0 0, .slice none 0 0]) ∧ ∃ cs F cs1 F1, Value.tuple #[.agg #[.slice none 0 0, .slice none 0 0, .slice none 0 0], .slice none 0 0] = .tuple #[rLocking.val cs, (rSlc rInt).val cs1] ∧ rLocking.own (H1.set (H.nxt + 1) [.slice none 0 0, .slice none 0 0, .slice none 0 0]) cs (pkR (under, b, routes) ops).1 F ∧ Fresh H (H1.set (H.nxt + 1) [.slice none 0 0, .slice none 0 0, .slice none 0 0]) F ∧ (rSlc rInt).own (H1.set (H.nxt + 1) [.slice none 0 0, .slice none 0 0, .slice none 0 0]) cs1 (pkR (under, b, routes) ops).2 F1 ∧ Fresh H (H1.set (H.nxt + 1) [.slice none 0 0, .slice none 0 0, .slice none 0 0]) F1 ∧ ∀ i ∈ F, i ∉ F1 := fun hb => by
    rw [hb]
    exact ⟨k01.set' (by omega), _, _, [.slice none 0 0], [], rfl, bad_own _, ⟨by simp, by simp⟩, .inl ⟨rfl, rfl, rfl⟩, ⟨by simp, by simp⟩, by simp⟩
  by_cases hy : plOk under b routes = true
  rotate_left
  · have hy' : plOk under b routes = false := by simpa using hy
    have hfin := bad (by rw [pkR, if_neg (fun h => hy h.1)])
    simp (maxSteps := 4000000) (disch := omega) only [Zq, evO, vbox, wr, Zeq, if_true, if_false, Nat.reduceEqDiff, Nat.reduceAdd, Nat.reduceLeDiff, Nat.reduceSub, and_self, and_true, true_and, reduceIte, reduceCtorEq, eq_self, implies_true, forall_const, false_implies, imp_self, decide_true, decide_false, fix_nil, fix_cons, g0, g0r, g1, g1r, hy']
    exact hfin
  by_cases h300 : ops.length ≤ 300
  rotate_left
  · have hfin := bad (by rw [pkR, if_neg (fun h => h300 h.2)])
    simp (maxSteps := 4000000) (disch := omega) only [Zq, evO, vbox, wr, Zeq, if_true, if_false, Nat.reduceEqDiff, Nat.reduceAdd, Nat.reduceLeDiff, Nat.reduceSub, and_self, and_true, true_and, reduceIte, reduceCtorEq, eq_self, implies_true, forall_const, false_implies, imp_self, decide_true, decide_false, fix_nil, fix_cons, g0, g0r, g1, g1r, hy, lw]
    exact hfin
  clear bad
  have hpl : pkR (under, b, routes) ops = lkGo under b routes ops := by rw [pkR, if_pos ⟨hy, h300⟩]
  simp (maxSteps := 4000000) (disch := omega) only [Zq, evO, vbox, wr, Zeq, if_true, if_false, Nat.reduceEqDiff, Nat.reduceAdd, Nat.reduceLeDiff, Nat.reduceSub, and_self, and_true, true_and, reduceIte, reduceCtorEq, eq_self, implies_true, forall_const, false_implies, imp_self, decide_true, decide_false, fix_nil, fix_cons, g0, g0r, g1, g1r, hy, lw]
  refine GO_call ((r_impl_Bare ((rSlc rInt).rdk hu k01) ((rSlc rRoute).rdk hr k01) tt hy).mono ?_)
  rintro _ H2 ⟨k2, cs, F, rfl, o2, fr⟩
  obtain ⟨v1, w1, u1, rfl, _⟩ := locking_rd (x0 := (bareR under b routes).1) (x1 := (bareR under b routes).2.1) (x2 := (bareR under b routes).2.2) (rLocking.ownrd o2)
  have n2 := k2.nxt
  have g2 := (k2.get H.nxt (by omega)).trans g1
  have g2r := (k2.get (H.nxt + 1) (by omega)).trans g1r
  simp only [locking_val]
  simp (maxSteps := 4000000) (disch := omega) only [Zq, evO, vbox, wr, Zeq, if_true, if_false, Nat.reduceEqDiff, Nat.reduceAdd, Nat.reduceLeDiff, Nat.reduceSub, and_self, and_true, true_and, reduceIte, reduceCtorEq, eq_self, implies_true, forall_const, false_implies, imp_self, decide_true, decide_false, fix_nil, fix_cons, g0, g0r, g1, g1r, g2, g2r, lw]
  generalize hG3 : (H2.push [.slice none 0 0, .slice none 0 0, .slice none 0 0]).set H2.nxt [v1, w1, u1] = H3
  have k3 : Keep H2 H3 := by rw [← hG3]; repeat' (first | exact Keep.refl _ | assumption | refine Keep.push' ?_ | refine Keep.set' ?_ ?_ | refine Keep.moved' ?_ ?_ | omega)
  have g3 : H3.get H2.nxt = some (.own [v1, w1, u1]) := by rw [← hG3, Zbi, if_pos rfl]
  have n3 : H3.nxt = H2.nxt + 1 := by rw [← hG3, Zbh, Zbg]
  obtain ⟨F0, F1, F2, L3⟩ := own_lk o2 fr n2 k3 (by omega) g3
  have g3a := (k3.get H.nxt (by omega)).trans g2
  have g3r := (k3.get (H.nxt + 1) (by omega)).trans g2r
  have k13 := k2.trans k3
  have k03 := k01.trans k13
  clear hG3 fr o2 g0 g0r g1 g1r g2 g2r
  generalize hG4 : H3.push (List.replicate ops.length [Value.int .i64 0]).flatten = H4
  have k4 : Keep H3 H4 := by rw [← hG4]; exact Keep.push _ _
  have n4 : H4.nxt = H3.nxt + 1 := by rw [← hG4, Zbg]
  obtain ⟨cv, hcv⟩ : ∃ cv, cv = Value.slice (some ⟨H3.nxt, 0, none⟩) ops.length 1 := ⟨_, rfl⟩
  have oc4 : NewI H3 H4 cv (List.replicate ops.length 0) := ⟨H3.nxt, Nat.le_refl _, by omega, by rw [hcv, List.length_replicate], by rw [← hG4, push_get', if_pos rfl, fcZ]; congr 2; induction ops.length with | zero => rfl | succ n ih => simp [List.replicate_succ, ih]⟩
  have e3 : H2.nxt + 1 = H3.nxt := by omega
  rw [e3, ← hcv]
  have g4a := (k4.get H.nxt (by omega)).trans g3a
  have g4r := (k4.get (H.nxt + 1) (by omega)).trans g3r
  have k14 := k13.trans k4
  have k04 := k03.trans k4
  have L4 : Lk (fun a => H1.nxt ≤ a ∧ a ≠ H3.nxt) H4 H2.nxt v1 w1 u1 F0 F1 F2 (bareR under b routes).1 (bareR under b routes).2.1 (bareR under b routes).2.2 := by
    have LL := L3.keep k4
    have lt := rLocking.ownlt (locking_own' L3.o0 L3.o1 L3.o2)
    exact ⟨⟨L3.hq, by have := L3.lt; omega⟩, LL.lt, LL.g, LL.o0, LL.o1, LL.o2, LL.nd, fun a ha => ⟨⟨(L3.pf a ha).1, by have := lt a ha; omega⟩, (L3.pf a ha).2⟩⟩
  clear hG4 g3a g3r L3
  refine G_forF [2, 4, 6, 7, 24, 25] (ops.length) (fun i T H5 => T 26 = .int .i64 (i : Int) ∧ (H4.nxt ≤ H5.nxt ∧ ∀ a, a < H1.nxt → H5.get a = H4.get a) ∧ Lk (fun a => H1.nxt ≤ a ∧ a ≠ H3.nxt) H5 H2.nxt v1 w1 u1 F0 F1 F2 (lkGo under b routes (ops.take i)).1.1 (lkGo under b routes (ops.take i)).1.2.1 (lkGo under b routes (ops.take i)).1.2.2 ∧ blk cv = H3.nxt ∧ NewI H3 H5 cv ((lkGo under b routes (ops.take i)).2 ++ List.replicate (ops.length - i) 0)) 0 (Nat.zero_le _) ?_ ?_
  · simp (maxSteps := 4000000) (disch := omega) only [Zq, evO, vbox, wr, Zeq, if_true, if_false, Nat.reduceEqDiff, Nat.reduceAdd, Nat.reduceLeDiff, Nat.reduceSub, and_self, and_true, true_and, reduceIte, reduceCtorEq, eq_self, implies_true, forall_const, false_implies, imp_self, decide_true, decide_false, fix_nil, fix_cons, g3, g4a, g4r]
    exact ⟨L4, by rw [hcv]; rfl, by simpa [lkGo] using oc4⟩
  rintro i T H5 hi hT ⟨t26, ⟨n5, kp5⟩, L5, hbc, oc5⟩
  simp only [fix_nil, fix_cons, Zq, evO, vbox, wr, Zeq, if_true, if_false, Nat.reduceEqDiff, Nat.reduceAdd, Nat.reduceLeDiff, Nat.reduceSub, and_self, and_true, true_and, reduceIte, reduceCtorEq, eq_self, implies_true, forall_const, false_implies, imp_self, decide_true, decide_false] at hT
  obtain ⟨t2, t4, t6, t7, t24, t25⟩ := hT
  have k15 : Keep H1 H5 := ⟨by omega, fun a ha => by rw [kp5 a ha, k14.get a ha]⟩
  have k05 : Keep H H5 := k01.trans k15
  have g5a := (kp5 H.nxt (by omega)).trans g4a
  have g5r := (kp5 (H.nxt + 1) (by omega)).trans g4r
  have g5q := L5.g
  obtain ⟨okI, lenC⟩ := lkGo_ok (ops := ops) hy i hi
  by_cases hin : i < ops.length
  · have eu := (op_el ((rSlc rLockOp).rdk h3 k05) hin).1
    simp (maxSteps := 4000000) (disch := omega) only [Zq, evO, vbox, wr, Zeq, if_true, if_false, Nat.reduceEqDiff, Nat.reduceAdd, Nat.reduceLeDiff, Nat.reduceSub, and_self, and_true, true_and, reduceIte, reduceCtorEq, eq_self, implies_true, forall_const, false_implies, imp_self, decide_true, decide_false, fix_nil, fix_cons, g3, g4a, g4r, t2, t4, t6, t7, t24, t25, t26, g5a, g5r, g5q, lw, slc_idx (r := rLockOp) (sz := 2) rfl h3 hin, eu]
    generalize hG6 : (H5.push [.int .i64 0, .int .i64 0]).set H5.nxt [.int .i64 ops[i].1, .int .i64 ops[i].2] = H6
    have k6 : Keep H5 H6 := by rw [← hG6]; repeat' (first | exact Keep.refl _ | assumption | refine Keep.push' ?_ | refine Keep.set' ?_ ?_ | refine Keep.moved' ?_ ?_ | omega)
    have g6 : H6.get H5.nxt = some (.own [.int .i64 ops[i].1, .int .i64 ops[i].2]) := by rw [← hG6, Zbi, if_pos rfl]
    have n6 : H6.nxt = H5.nxt + 1 := by rw [← hG6, Zbh, Zbg]
    have g6a := (k6.get H.nxt (by omega)).trans g5a
    have L6 := L5.keep k6
    refine GO_call_eq (by simp (maxSteps := 4000000) (disch := omega) only [Zq, evO, vbox, wr, Zeq, if_true, if_false, Nat.reduceEqDiff, Nat.reduceAdd, Nat.reduceLeDiff, Nat.reduceSub, and_self, and_true, true_and, reduceIte, reduceCtorEq, eq_self, implies_true, forall_const, false_implies, imp_self, decide_true, decide_false, fix_nil, fix_cons, g3, g4a, g4r, t2, t4, t6, t7, t24, t25, t26, g5a, g5r, g5q, g6, g6a]) ((r_impl_play (B := H1) (o := ops[i]) (k15.trans k6) (fun a ha => ha.1) ((rSlc rInt).rdk hu k01) ((rSlc rRoute).rdk hr k01) tt L6 okI).mono ?_)
    rintro _ H7 ⟨k7, L7, rfl⟩
    have n7 := k7.nxt
    have oc7 : NewI H3 H7 cv ((lkGo under b routes (ops.take i)).2 ++ List.replicate (ops.length - i) 0) := by
      obtain ⟨p, p1, p2, p3, p4⟩ := oc5
      have hp : p = H3.nxt := by rw [p3] at hbc; exact hbc
      refine ⟨p, p1, by omega, p3, ?_⟩
      rw [k7.get p (by omega) (fun hh => hh.2 hp), k6.get p p2, p4]
    have hll : i < ((lkGo under b routes (ops.take i)).2 ++ List.replicate (ops.length - i) (0 : Int)).length := by rw [List.length_append, List.length_replicate]; omega
    obtain ⟨c, hc⟩ : ∃ c, c = (lkDo under b routes (lkGo under b routes (ops.take i)).1 ops[i]).2 := ⟨_, rfl⟩
    have hc' : (lkDo under b routes ((lkGo under b routes (ops.take i)).1.1, (lkGo under b routes (ops.take i)).1.2.1, (lkGo under b routes (ops.take i)).1.2.2) ops[i]).2 = c := hc.symm
    rw [hc']
    obtain ⟨H8, e8, o8, k8, n8, g8⟩ := NewF.st (x := .int .i64 c) (y := c) (fZ_len .i64) oc7 rfl rfl hll
    have hset : ((lkGo under b routes (ops.take i)).2 ++ List.replicate (ops.length - i) (0 : Int)).set i c = (lkGo under b routes (ops.take (i + 1))).2 ++ List.replicate (ops.length - (i + 1)) 0 := by
      rw [lkGo_succ hin, lkStep, hc]
      have e : ops.length - i = (ops.length - (i + 1)) + 1 := by omega
      rw [e, List.replicate_succ, List.set_append_right _ _ (by omega), lenC, Nat.sub_self, List.set_cons_zero, List.append_assoc]
      rfl
    rw [hset] at o8
    have ixc : ∀ H0 : Heap, vidx H0 1 cv (.int .i64 (i : Int)) = some (adr cv i 1 0, H0) := fun H0 => by
      have hs := oc7.sl (fZ_len .i64)
      exact hs.idx hll
    have only : ∀ a, a ≠ H3.nxt → H8.get a = H7.get a := fun a ha => by
      obtain ⟨p, p1, p2, p3, p4⟩ := oc7
      have hp : p = H3.nxt := by rw [p3] at hbc; exact hbc
      have hh := e8
      rw [p3] at hh
      simp only [adr, Zcq, p4] at hh
      rw [show 0 + i * 1 + 0 = i * 1 by omega, stO_elem (fZ_len .i64) rfl (y := c) rfl hll] at hh
      simp only [Option.some.injEq, Prod.mk.injEq, true_and] at hh
      rw [← hh, Zbi, if_neg (by omega)]
    have L8 : Lk (fun a => H1.nxt ≤ a ∧ a ≠ H3.nxt) H8 H2.nxt v1 w1 u1 F0 F1 F2 (lkGo under b routes (ops.take (i + 1))).1.1 (lkGo under b routes (ops.take (i + 1))).1.2.1 (lkGo under b routes (ops.take (i + 1))).1.2.2 := by
      rw [lkGo_succ hin, lkStep]
      exact ⟨L7.hq, by have := L7.lt; omega, (only _ L7.hq.2).trans L7.g, (rSlc rInt).ownk L7.o0 (by omega) (fun a ha => only a (L7.m0 ha).1.1.2), (rSlc rBool).ownk L7.o1 (by omega) (fun a ha => only a (L7.m1 ha).1.1.2), (rSlc rBool).ownk L7.o2 (by omega) (fun a ha => only a (L7.m2 ha).1.1.2), L7.nd, L7.pf⟩
    simp (maxSteps := 4000000) (disch := omega) only [Zq, evO, vbox, wr, Zeq, if_true, if_false, Nat.reduceEqDiff, Nat.reduceAdd, Nat.reduceLeDiff, Nat.reduceSub, and_self, and_true, true_and, reduceIte, reduceCtorEq, eq_self, implies_true, forall_const, false_implies, imp_self, decide_true, decide_false, fix_nil, fix_cons, g3, g4a, g4r, t2, t4, t6, t7, t24, t25, t26, g5a, g5r, g5q, g6, g6a, g8, ixc, e8]
    refine ⟨hin, ⟨by omega, fun a ha => ?_⟩, L8, hbc, o8⟩
    rw [only a (by omega), k7.get a (by omega) (fun hh => by have : H1.nxt ≤ a := hh.1; omega), k6.get a (by omega), kp5 a ha]
  obtain rfl : i = ops.length := by omega
  rw [List.take_length] at L5 oc5 lenC okI
  rw [Nat.sub_self, List.replicate_zero, List.append_nil] at oc5
  obtain ⟨Fc, occ, hFc⟩ : ∃ Fc, (rSlc rInt).own H5 [cv] (lkGo under b routes ops).2 Fc ∧ Fc = [H3.nxt] := by
    obtain ⟨p, p1, p2, p3, p4⟩ := oc5
    have hp : p = H3.nxt := by rw [p3] at hbc; exact hbc
    rw [fcZ] at p4
    refine ⟨[p], ?_, by rw [hp]⟩
    rw [p3]
    exact leaf_own0 p2 p4
  subst hFc
  have lt := rLocking.ownlt (locking_own' L5.o0 L5.o1 L5.o2)
  have hnt : noTup cv = true := by rw [hcv]; rfl
  simp (maxSteps := 4000000) (disch := omega) only [Zq, evO, vbox, wr, Zeq, if_true, if_false, Nat.reduceEqDiff, Nat.reduceAdd, Nat.reduceLeDiff, Nat.reduceSub, and_self, and_true, true_and, reduceIte, reduceCtorEq, eq_self, implies_true, forall_const, false_implies, imp_self, decide_true, decide_false, fix_nil, fix_cons, g3, g4a, g4r, t2, t4, t6, t7, t24, t25, t26, g5a, g5r, g5q, lw, hnt]
  rw [hpl]
  refine ⟨k05.set' (by omega), [v1, w1, u1], F0 ++ (F1 ++ F2), [cv], [H3.nxt], rfl, ?_, ⟨L5.nd, fun a ha => ?_⟩, ?_, ⟨by simp, fun a ha => ?_⟩, fun a ha => ?_⟩
  · refine rLocking.ownk (a := (lkGo under b routes ops).1) (locking_own' L5.o0 L5.o1 L5.o2) (by rw [Zbh]; omega) (fun a ha => ?_)
    have : H1.nxt ≤ a := (L5.pf a ha).1.1
    rw [Zbi, if_neg (by omega)]
  · have : H1.nxt ≤ a := (L5.pf a ha).1.1
    have := lt a ha
    rw [Zbh]
    omega
  · refine (rSlc rInt).ownk occ (by rw [Zbh]; omega) (fun a ha => ?_)
    simp at ha
    subst ha
    rw [Zbi, if_neg (by omega)]
  · simp at ha
    subst ha
    rw [Zbh]
    omega
  · simp
    exact (L5.pf a ha).1.2
end Go.Proofs.Ythjphddodooahaa.AX
