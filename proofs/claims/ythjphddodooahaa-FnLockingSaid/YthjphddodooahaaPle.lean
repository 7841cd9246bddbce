/- Lockings: when they are right, of the reference. No condition beyond each law's own; of the program: the functions' forms. -/
import Derived.Test.YthjphddodooahaaPld
namespace Go.Proofs.Ythjphddodooahaa.AX
open Go
set_option maxRecDepth 10000
set_option maxHeartbeats 4000000
set_option linter.unusedSimpArgs false
set_option linter.unusedVariables false
section
variable {H : Heap} {vu vr vp vs vt : Value} {under : List Int} {b : Int} {routes : List Rt} {pos : List Int} {set taken : List Bool}
theorem r_spec_LockingOk (hu : (rSlc rInt).rd H [vu] under) (hr : (rSlc rRoute).rd H [vr] routes) (hp : (rSlc rInt).rd H [vp] pos) (hs : (rSlc rBool).rd H [vs] set) (ht : (rSlc rBool).rd H [vt] taken) (tt : rPlant.tot (under, b, routes) ≤ 1048576) (tl : rLocking.tot (pos, set, taken) ≤ 1048576) : Run Try.prog 59 [.agg #[vu, .int .i64 b, vr], .agg #[vp, vs, vt]] H fun x H' => Keep H H' ∧ x = .bool (lkOk under b routes pos set taken) := by
  obtain ⟨m1, m2, m3⟩ := plant_tot' tt
  have tl' := tl
  rw [locking_tot, leaf_tot, leaf_tot, leaf_tot] at tl'
  have lu : ∀ H : Heap, vlen H vu = some (.int .i64 under.length, H) := fun _ => slc_len hu
  have lr : ∀ H : Heap, vlen H vr = some (.int .i64 routes.length, H) := fun _ => slc_len hr
  have lp : ∀ H : Heap, vlen H vp = some (.int .i64 pos.length, H) := fun _ => slc_len hp
  have ls : ∀ H : Heap, vlen H vs = some (.int .i64 set.length, H) := fun _ => slc_len hs
  have lt : ∀ H : Heap, vlen H vt = some (.int .i64 taken.length, H) := fun _ => slc_len ht
  refine Run.intro c59 rfl ?_
  simp (maxSteps := 4000000) (disch := omega) only [Zq, evO, vbox, wr, Zeq, if_true, if_false, Nat.reduceEqDiff, Nat.reduceAdd, Nat.reduceLeDiff, Nat.reduceSub, and_self, and_true, true_and, reduceIte, reduceCtorEq, eq_self, implies_true, forall_const, false_implies, imp_self, decide_true, decide_false, x59]
  generalize hG0 : (H.push [vu, .int .i64 b, vr]).push [vp, vs, vt] = H0
  have k0 : Keep H H0 := by rw [← hG0]; repeat' (first | exact Keep.refl _ | assumption | refine Keep.push' ?_ | refine Keep.set' ?_ ?_ | refine Keep.moved' ?_ ?_ | omega)
  have g0 : H0.get H.nxt = some (.own [vu, .int .i64 b, vr]) := by rw [← hG0]; simp (maxSteps := 4000000) (disch := omega) only [Zq, evO, vbox, wr, Zeq, if_true, if_false, Nat.reduceEqDiff, Nat.reduceAdd, Nat.reduceLeDiff, Nat.reduceSub, and_self, and_true, true_and, reduceIte, reduceCtorEq, eq_self, implies_true, forall_const, false_implies, imp_self, decide_true, decide_false]
  have g0r : H0.get (H.nxt + 1) = some (.own [vp, vs, vt]) := by rw [← hG0]; simp (maxSteps := 4000000) (disch := omega) only [Zq, evO, vbox, wr, Zeq, if_true, if_false, Nat.reduceEqDiff, Nat.reduceAdd, Nat.reduceLeDiff, Nat.reduceSub, and_self, and_true, true_and, reduceIte, reduceCtorEq, eq_self, implies_true, forall_const, false_implies, imp_self, decide_true, decide_false]
  have n0 : H0.nxt = H.nxt + 2 := by rw [← hG0]; simp only [Zbg]
  clear hG0
  refine GO_call ((r_spec_PlantOk ((rSlc rInt).rdk hu k0) ((rSlc rRoute).rdk hr k0) tt).mono ?_)
  rintro _ H1 ⟨k1, rfl⟩
  have n1 := k1.nxt
  have g1 := (k1.get (H.nxt) (by omega)).trans g0
  have g1r := (k1.get (H.nxt + 1) (by omega)).trans g0r
  have k01 := k0.trans k1
  by_cases c1 : plOk under b routes = true
  rotate_left
  · have c1' : plOk under b routes = false := by simpa using c1
    simp (maxSteps := 4000000) (disch := omega) only [Zq, evO, vbox, wr, Zeq, if_true, if_false, Nat.reduceEqDiff, Nat.reduceAdd, Nat.reduceLeDiff, Nat.reduceSub, and_self, and_true, true_and, reduceIte, reduceCtorEq, eq_self, implies_true, forall_const, false_implies, imp_self, decide_true, decide_false, fix_nil, fix_cons, g0, g0r, g1, g1r, c1']
    exact ⟨k01, by rw [lkOk, c1']; rfl⟩
  obtain ⟨b1, b2, u16, r12, hpu, hpr⟩ := plOk_get c1
  by_cases c2 : pos.length = under.length
  rotate_left
  · simp (maxSteps := 4000000) (disch := omega) only [Zq, evO, vbox, wr, Zeq, if_true, if_false, Nat.reduceEqDiff, Nat.reduceAdd, Nat.reduceLeDiff, Nat.reduceSub, and_self, and_true, true_and, reduceIte, reduceCtorEq, eq_self, implies_true, forall_const, false_implies, imp_self, decide_true, decide_false, fix_nil, fix_cons, g0, g0r, g1, g1r, c1, lp, lu]
    exact ⟨k01, by rw [lkOk, c1, decide_eq_false c2]; rfl⟩
  by_cases c3 : set.length = routes.length
  rotate_left
  · simp (maxSteps := 4000000) (disch := omega) only [Zq, evO, vbox, wr, Zeq, if_true, if_false, Nat.reduceEqDiff, Nat.reduceAdd, Nat.reduceLeDiff, Nat.reduceSub, and_self, and_true, true_and, reduceIte, reduceCtorEq, eq_self, implies_true, forall_const, false_implies, imp_self, decide_true, decide_false, fix_nil, fix_cons, g0, g0r, g1, g1r, c1, lp, lu, ls, lr]
    exact ⟨k01, by rw [lkOk, c1, decide_eq_true c2, decide_eq_false c3]; rfl⟩
  by_cases c4 : (taken.length : Int) = b
  rotate_left
  · simp (maxSteps := 4000000) (disch := omega) only [Zq, evO, vbox, wr, Zeq, if_true, if_false, Nat.reduceEqDiff, Nat.reduceAdd, Nat.reduceLeDiff, Nat.reduceSub, and_self, and_true, true_and, reduceIte, reduceCtorEq, eq_self, implies_true, forall_const, false_implies, imp_self, decide_true, decide_false, fix_nil, fix_cons, g0, g0r, g1, g1r, c1, lp, lu, ls, lr, lt, Zfm c4]
    exact ⟨k01, by rw [lkOk, c1, decide_eq_true c2, decide_eq_true c3, decide_eq_false c4]; rfl⟩
  have hlk : lkOk under b routes pos set taken = (allTo pos.length (fun i => inR 0 1 (pos.getD i 0)) && allTo routes.length (rowOk pos set routes)) := by rw [lkOk, c1, decide_eq_true c2, decide_eq_true c3, decide_eq_true c4]; rfl
  simp (maxSteps := 4000000) (disch := omega) only [Zq, evO, vbox, wr, Zeq, if_true, if_false, Nat.reduceEqDiff, Nat.reduceAdd, Nat.reduceLeDiff, Nat.reduceSub, and_self, and_true, true_and, reduceIte, reduceCtorEq, eq_self, implies_true, forall_const, false_implies, imp_self, decide_true, decide_false, fix_nil, fix_cons, g0, g0r, g1, g1r, c1, lp, lu, ls, lr, lt, Zfl c4]
  first | refine G_fix [2, 3, 5] ?_ | refine GO_fix [2, 3, 5] ?_ | refine cK_fix [2, 3, 5] ?_
  intro T hT
  simp only [fix_nil, fix_cons, Zq, evO, vbox, wr, Zeq, if_true, if_false, Nat.reduceEqDiff, Nat.reduceAdd, Nat.reduceLeDiff, Nat.reduceSub, and_self, and_true, true_and, reduceIte, reduceCtorEq, eq_self, implies_true, forall_const, false_implies, imp_self, decide_true, decide_false] at hT
  obtain ⟨t2, t3, t5⟩ := hT
  refine G_forF [2, 3] (pos.length) (fun i T H2 => T 5 = .int .i64 (i : Int) ∧ Keep H1 H2 ∧ ∀ j, j < i → inR 0 1 (pos.getD j 0) = true) 0 (Nat.zero_le _) ?_ ?_
  · simp (maxSteps := 4000000) (disch := omega) only [Zq, evO, vbox, wr, Zeq, if_true, if_false, Nat.reduceEqDiff, Nat.reduceAdd, Nat.reduceLeDiff, Nat.reduceSub, and_self, and_true, true_and, reduceIte, reduceCtorEq, eq_self, implies_true, forall_const, false_implies, imp_self, decide_true, decide_false, fix_nil, fix_cons, g0, g0r, g1, g1r, t2, t3, t5]
    exact ⟨Keep.refl _, fun j hj => by omega⟩
  rintro i T H2 hi hT ⟨t5, k2, ha⟩
  simp only [fix_nil, fix_cons, Zq, evO, vbox, wr, Zeq, if_true, if_false, Nat.reduceEqDiff, Nat.reduceAdd, Nat.reduceLeDiff, Nat.reduceSub, and_self, and_true, true_and, reduceIte, reduceCtorEq, eq_self, implies_true, forall_const, false_implies, imp_self, decide_true, decide_false, t2, t3, t5] at hT
  obtain ⟨t2, t3⟩ := hT
  have n2 := k2.nxt
  have k02 := k01.trans k2
  have g2 := (k2.get H.nxt (by omega)).trans g1
  have g2r := (k2.get (H.nxt + 1) (by omega)).trans g1r
  by_cases hin : i < pos.length
  · have hi2 := (ints_of hp).keep k02
    simp (maxSteps := 4000000) (disch := omega) only [Zq, evO, vbox, wr, Zeq, if_true, if_false, Nat.reduceEqDiff, Nat.reduceAdd, Nat.reduceLeDiff, Nat.reduceSub, and_self, and_true, true_and, reduceIte, reduceCtorEq, eq_self, implies_true, forall_const, false_implies, imp_self, decide_true, decide_false, fix_nil, fix_cons, g0, g0r, g1, g1r, t2, t3, t5, g2, g2r, lp, hi2.idx hin, hi2.ld hin]
    refine GO_call ((r_spec_l01In (pos.getD i 0) 0 1 _).mono ?_)
    rintro _ H3 ⟨k3, rfl⟩
    have n3 := k3.nxt
    by_cases d1 : inR 0 1 (pos.getD i 0) = true
    · simp (maxSteps := 4000000) (disch := omega) only [Zq, evO, vbox, wr, Zeq, if_true, if_false, Nat.reduceEqDiff, Nat.reduceAdd, Nat.reduceLeDiff, Nat.reduceSub, and_self, and_true, true_and, reduceIte, reduceCtorEq, eq_self, implies_true, forall_const, false_implies, imp_self, decide_true, decide_false, fix_nil, fix_cons, g0, g0r, g1, g1r, t2, t3, t5, g2, g2r, d1]
      exact ⟨hin, k2.trans k3, upto_succ (f := fun i => inR 0 1 (pos.getD i 0)) ha d1⟩
    · have d1' : inR 0 1 (pos.getD i 0) = false := by simpa using d1
      simp (maxSteps := 4000000) (disch := omega) only [Zq, evO, vbox, wr, Zeq, if_true, if_false, Nat.reduceEqDiff, Nat.reduceAdd, Nat.reduceLeDiff, Nat.reduceSub, and_self, and_true, true_and, reduceIte, reduceCtorEq, eq_self, implies_true, forall_const, false_implies, imp_self, decide_true, decide_false, fix_nil, fix_cons, g0, g0r, g1, g1r, t2, t3, t5, g2, g2r, d1']
      exact ⟨k02.trans k3, by rw [hlk, allTo_bad (f := fun i => inR 0 1 (pos.getD i 0)) hin d1']; rfl⟩
  obtain rfl : i = pos.length := by omega
  have hA := allTo_iff (f := fun i => inR 0 1 (pos.getD i 0)) |>.2 ha
  rw [hA, Bool.true_and] at hlk
  simp (maxSteps := 4000000) (disch := omega) only [Zq, evO, vbox, wr, Zeq, if_true, if_false, Nat.reduceEqDiff, Nat.reduceAdd, Nat.reduceLeDiff, Nat.reduceSub, and_self, and_true, true_and, reduceIte, reduceCtorEq, eq_self, implies_true, forall_const, false_implies, imp_self, decide_true, decide_false, fix_nil, fix_cons, g0, g0r, g1, g1r, t2, t3, t5, g2, g2r, lp]
  clear ha hA g0 g0r g1 g1r k01
  refine G_forF [2, 3] (routes.length) (fun a T H3 => T 6 = .int .i64 (a : Int) ∧ Keep H2 H3 ∧ ∀ j, j < a → rowOk pos set routes j = true) 0 (Nat.zero_le _) ?_ ?_
  · simp (maxSteps := 4000000) (disch := omega) only [Zq, evO, vbox, wr, Zeq, if_true, if_false, Nat.reduceEqDiff, Nat.reduceAdd, Nat.reduceLeDiff, Nat.reduceSub, and_self, and_true, true_and, reduceIte, reduceCtorEq, eq_self, implies_true, forall_const, false_implies, imp_self, decide_true, decide_false, fix_nil, fix_cons, t2, t3, t5, g2, g2r]
    exact ⟨Keep.refl _, fun j hj => by omega⟩
  rintro a T H3 hi hT ⟨t6, k3, hd⟩
  simp only [fix_nil, fix_cons, Zq, evO, vbox, wr, Zeq, if_true, if_false, Nat.reduceEqDiff, Nat.reduceAdd, Nat.reduceLeDiff, Nat.reduceSub, and_self, and_true, true_and, reduceIte, reduceCtorEq, eq_self, implies_true, forall_const, false_implies, imp_self, decide_true, decide_false, t2, t3, t5] at hT
  obtain ⟨t2, t3⟩ := hT
  have n3 := k3.nxt
  have k03 := k02.trans k3
  have g3 := (k3.get H.nxt (by omega)).trans g2
  have g3r := (k3.get (H.nxt + 1) (by omega)).trans g2r
  by_cases hin : a < routes.length
  rotate_left
  · obtain rfl : a = routes.length := by omega
    simp (maxSteps := 4000000) (disch := omega) only [Zq, evO, vbox, wr, Zeq, if_true, if_false, Nat.reduceEqDiff, Nat.reduceAdd, Nat.reduceLeDiff, Nat.reduceSub, and_self, and_true, true_and, reduceIte, reduceCtorEq, eq_self, implies_true, forall_const, false_implies, imp_self, decide_true, decide_false, fix_nil, fix_cons, t2, t3, t5, g2, g2r, t6, g3, g3r, lr]
    exact ⟨k03, by rw [hlk, allTo_iff.2 hd]⟩
  obtain ⟨r1, r2⟩ := rt_tot m3 hin
  have hrt := hpr a hin
  have has : a < set.length := by omega
  have es := bool_el ((rSlc rBool).rdk hs k03) has
  have ixs := fun H0 : Heap => slc_idx (r := rBool) (H1 := H0) (sz := 1) (i := a) (k := .i64) rfl hs has
  have ixr := fun H0 : Heap => slc_idx (r := rRoute) (H1 := H0) (sz := 2) (i := a) (k := .i64) rfl hr hin
  have fxr := fun (H0 : Heap) (o off : Nat) => slc_fad (r := rRoute) (H1 := H0) (sz := 2) (o := o) (off := off) rfl hr hin
  have bad : rowOk pos set routes a = false → Value.bool false = .bool (lkOk under b routes pos set taken) := fun h => by rw [hlk, allTo_bad hin h]
  by_cases c5 : set.getD a false = true
  rotate_left
  · have c5' : set.getD a false = false := by simpa using c5
    rw [c5'] at es
    simp (maxSteps := 4000000) (disch := omega) only [Zq, evO, vbox, wr, Zeq, if_true, if_false, Nat.reduceEqDiff, Nat.reduceAdd, Nat.reduceLeDiff, Nat.reduceSub, and_self, and_true, true_and, reduceIte, reduceCtorEq, eq_self, implies_true, forall_const, false_implies, imp_self, decide_true, decide_false, fix_nil, fix_cons, t2, t3, t5, g2, g2r, t6, g3, g3r, lr, ixs, es]
    exact ⟨hin, k3, upto_succ hd (by rw [rowOk, c5']; rfl)⟩
  rw [c5] at es
  simp (maxSteps := 4000000) (disch := omega) only [Zq, evO, vbox, wr, Zeq, if_true, if_false, Nat.reduceEqDiff, Nat.reduceAdd, Nat.reduceLeDiff, Nat.reduceSub, and_self, and_true, true_and, reduceIte, reduceCtorEq, eq_self, implies_true, forall_const, false_implies, imp_self, decide_true, decide_false, fix_nil, fix_cons, t2, t3, t5, g2, g2r, t6, g3, g3r, lr, ixs, es]
  refine G_forF [2, 3, 6] (a) (fun j T H6 => T 7 = .int .i64 (j : Int) ∧ Keep H3 H6 ∧ ∀ k, k < j → agRow set routes a k = true) 0 (Nat.zero_le _) ?_ ?_
  · simp (maxSteps := 4000000) (disch := omega) only [Zq, evO, vbox, wr, Zeq, if_true, if_false, Nat.reduceEqDiff, Nat.reduceAdd, Nat.reduceLeDiff, Nat.reduceSub, and_self, and_true, true_and, reduceIte, reduceCtorEq, eq_self, implies_true, forall_const, false_implies, imp_self, decide_true, decide_false, fix_nil, fix_cons, t2, t3, t5, g2, g2r, t6, g3, g3r]
    exact ⟨Keep.refl _, fun j hj => by omega⟩
  rintro j T H6 hj hT ⟨t7, k6, hf⟩
  simp only [fix_nil, fix_cons, Zq, evO, vbox, wr, Zeq, if_true, if_false, Nat.reduceEqDiff, Nat.reduceAdd, Nat.reduceLeDiff, Nat.reduceSub, and_self, and_true, true_and, reduceIte, reduceCtorEq, eq_self, implies_true, forall_const, false_implies, imp_self, decide_true, decide_false, t2, t3, t5, t6] at hT
  obtain ⟨t2, t3, t6⟩ := hT
  have n6 := k6.nxt
  have g6 := (k6.get H.nxt (by omega)).trans g3
  have g6r := (k6.get (H.nxt + 1) (by omega)).trans g3r
  have k06 := k03.trans k6
  by_cases hja : j < a
  · have hjr : j < routes.length := by omega
    have hjs : j < set.length := by omega
    have es := bool_el ((rSlc rBool).rdk hs k06) hjs
    have ixs := fun H0 : Heap => slc_idx (r := rBool) (H1 := H0) (sz := 1) (i := j) (k := .i64) rfl hs hjs
    obtain ⟨vn, vb, e3, _, _, hn, hbb⟩ := route_el ((rSlc rRoute).rdk hr k06) hin
    obtain ⟨wn, wb, e7, _, _, hwn, hwb⟩ := route_el ((rSlc rRoute).rdk hr k06) hjr
    obtain ⟨q1, q2⟩ := rt_tot m3 hjr
    by_cases c6 : set.getD j false = true
    rotate_left
    · have c6' : set.getD j false = false := by simpa using c6
      rw [c6'] at es
      simp (maxSteps := 4000000) (disch := omega) only [Zq, evO, vbox, wr, Zeq, if_true, if_false, Nat.reduceEqDiff, Nat.reduceAdd, Nat.reduceLeDiff, Nat.reduceSub, and_self, and_true, true_and, reduceIte, reduceCtorEq, eq_self, implies_true, forall_const, false_implies, imp_self, decide_true, decide_false, fix_nil, fix_cons, t2, t3, t5, g2, g2r, t6, g3, g3r, t7, g6, g6r]
      refine G_tame rfl ?_
      simp (maxSteps := 4000000) (disch := omega) only [Zq, evO, vbox, wr, Zeq, if_true, if_false, Nat.reduceEqDiff, Nat.reduceAdd, Nat.reduceLeDiff, Nat.reduceSub, and_self, and_true, true_and, reduceIte, reduceCtorEq, eq_self, implies_true, forall_const, false_implies, imp_self, decide_true, decide_false, fix_nil, fix_cons, t2, t3, t5, g2, g2r, t6, g3, g3r, t7, g6, g6r, ixs, es]
      exact ⟨hja, k6, upto_succ hf (by rw [agRow, c6']; rfl)⟩
    rw [c6] at es
    simp (maxSteps := 4000000) (disch := omega) only [Zq, evO, vbox, wr, Zeq, if_true, if_false, Nat.reduceEqDiff, Nat.reduceAdd, Nat.reduceLeDiff, Nat.reduceSub, and_self, and_true, true_and, reduceIte, reduceCtorEq, eq_self, implies_true, forall_const, false_implies, imp_self, decide_true, decide_false, fix_nil, fix_cons, t2, t3, t5, g2, g2r, t6, g3, g3r, t7, g6, g6r]
    refine G_tame rfl ?_
    simp (maxSteps := 4000000) (disch := omega) only [Zq, evO, vbox, wr, Zeq, if_true, if_false, Nat.reduceEqDiff, Nat.reduceAdd, Nat.reduceLeDiff, Nat.reduceSub, and_self, and_true, true_and, reduceIte, reduceCtorEq, eq_self, implies_true, forall_const, false_implies, imp_self, decide_true, decide_false, fix_nil, fix_cons, t2, t3, t5, g2, g2r, t6, g3, g3r, t7, g6, g6r, ixs, es, ixr, slc_idx (r := rRoute) (sz := 2) rfl hr hjr, e3, e7]
    refine GO_call ((r_spec_l06Against (a := rt routes a) (b := rt routes j) hn hbb hwn hwb r1 r2 q1 q2).mono ?_)
    rintro _ H7 ⟨k7, rfl⟩
    have n7 := k7.nxt
    by_cases d1 : agNo (rt routes a) (rt routes j) = true
    · simp (maxSteps := 4000000) (disch := omega) only [Zq, evO, vbox, wr, Zeq, if_true, if_false, Nat.reduceEqDiff, Nat.reduceAdd, Nat.reduceLeDiff, Nat.reduceSub, and_self, and_true, true_and, reduceIte, reduceCtorEq, eq_self, implies_true, forall_const, false_implies, imp_self, decide_true, decide_false, fix_nil, fix_cons, t2, t3, t5, g2, g2r, t6, g3, g3r, t7, g6, g6r, d1]
      exact ⟨hja, k6.trans k7, upto_succ hf (by rw [agRow, d1]; simp)⟩
    · have d1' : agNo (rt routes a) (rt routes j) = false := by simpa using d1
      simp (maxSteps := 4000000) (disch := omega) only [Zq, evO, vbox, wr, Zeq, if_true, if_false, Nat.reduceEqDiff, Nat.reduceAdd, Nat.reduceLeDiff, Nat.reduceSub, and_self, and_true, true_and, reduceIte, reduceCtorEq, eq_self, implies_true, forall_const, false_implies, imp_self, decide_true, decide_false, fix_nil, fix_cons, t2, t3, t5, g2, g2r, t6, g3, g3r, t7, g6, g6r, d1']
      exact ⟨k06.trans k7, bad (row_2 c5 hja (by rw [agRow, c6, d1']; rfl))⟩
  obtain rfl : j = a := by omega
  have hN := allTo_iff.2 hf
  simp (maxSteps := 4000000) (disch := omega) only [Zq, evO, vbox, wr, Zeq, if_true, if_false, Nat.reduceEqDiff, Nat.reduceAdd, Nat.reduceLeDiff, Nat.reduceSub, and_self, and_true, true_and, reduceIte, reduceCtorEq, eq_self, implies_true, forall_const, false_implies, imp_self, decide_true, decide_false, fix_nil, fix_cons, t2, t3, t5, g2, g2r, t6, g3, g3r, t7, g6, g6r]
  refine G_forF [2, 3, 6] ((rt routes j).1.length) (fun i T H5 => T 8 = .int .i64 (i : Int) ∧ H5 = H6 ∧ ∀ k, k < i → posOk pos (rt routes j).1 k = true) 0 (Nat.zero_le _) ?_ ?_
  · simp (maxSteps := 4000000) (disch := omega) only [Zq, evO, vbox, wr, Zeq, if_true, if_false, Nat.reduceEqDiff, Nat.reduceAdd, Nat.reduceLeDiff, Nat.reduceSub, and_self, and_true, true_and, reduceIte, reduceCtorEq, eq_self, implies_true, forall_const, false_implies, imp_self, decide_true, decide_false, fix_nil, fix_cons, t2, t3, t5, g2, g2r, t6, g3, g3r, t7, g6, g6r]
    exact fun j hj => by omega
  rintro i T H5 hi2 hT ⟨t8, h5, he⟩
  simp only [fix_nil, fix_cons, Zq, evO, vbox, wr, Zeq, if_true, if_false, Nat.reduceEqDiff, Nat.reduceAdd, Nat.reduceLeDiff, Nat.reduceSub, and_self, and_true, true_and, reduceIte, reduceCtorEq, eq_self, implies_true, forall_const, false_implies, imp_self, decide_true, decide_false, t2, t3, t5, t6, t7] at hT
  obtain ⟨t2, t3, t6⟩ := hT
  subst h5
  obtain ⟨vn, vb, _, e3, _, hn, hbb⟩ := route_el ((rSlc rRoute).rdk hr k06) hin
  have ln : ∀ H : Heap, vlen H vn = some (.int .i64 (rt routes j).1.length, H) := fun _ => slc_len hn
  by_cases hi3 : i < (rt routes j).1.length
  · obtain ⟨_, e5, e6⟩ := need_el hn hi3
    have ixn := fun H0 : Heap => slc_idx (r := rNeed) (H1 := H0) (sz := 2) (i := i) (k := .i64) rfl hn hi3
    have fxn := fun (H0 : Heap) (o off : Nat) => slc_fad (r := rNeed) (H1 := H0) (sz := 2) (o := o) (off := off) rfl hn hi3
    have hpt := rtOk_nd hrt hi3
    have hpl : (nd (rt routes j).1 i).1.toNat < pos.length := by omega
    have cst : (nd (rt routes j).1 i).1 = (((nd (rt routes j).1 i).1.toNat : Nat) : Int) := by omega
    have ixp : ∀ H0 : Heap, vidx H0 1 vp (.int .i64 (nd (rt routes j).1 i).1) = some (adr vp (nd (rt routes j).1 i).1.toNat 1 0, H0) := fun H0 => by
      have := slc_idx (r := rInt) (H1 := H0) (sz := 1) (k := .i64) rfl hp hpl
      rwa [← cst] at this
    have ldp := IntsK.ld ((ints_of hp).keep k06) hpl
    simp (maxSteps := 4000000) (disch := omega) only [Zq, evO, vbox, wr, Zeq, if_true, if_false, Nat.reduceEqDiff, Nat.reduceAdd, Nat.reduceLeDiff, Nat.reduceSub, and_self, and_true, true_and, reduceIte, reduceCtorEq, eq_self, implies_true, forall_const, false_implies, imp_self, decide_true, decide_false, fix_nil, fix_cons, t2, t3, t5, g2, g2r, t6, g3, g3r, t7, g6, g6r, t8, ixr, fxr, e3, ln]
    refine G_calm rfl ?_
    by_cases d1 : pos.getD (nd (rt routes j).1 i).1.toNat 0 = (nd (rt routes j).1 i).2
    · simp (maxSteps := 4000000) (disch := omega) only [Zq, evO, vbox, wr, Zeq, if_true, if_false, Nat.reduceEqDiff, Nat.reduceAdd, Nat.reduceLeDiff, Nat.reduceSub, and_self, and_true, true_and, reduceIte, reduceCtorEq, eq_self, implies_true, forall_const, false_implies, imp_self, decide_true, decide_false, fix_nil, fix_cons, t2, t3, t5, g2, g2r, t6, g3, g3r, t7, g6, g6r, t8, ixr, fxr, e3, ixn, fxn, e5, e6, ixp, ldp, Zfl d1]
      exact ⟨hi3, upto_succ he (by rw [posOk, decide_eq_true d1])⟩
    · simp (maxSteps := 4000000) (disch := omega) only [Zq, evO, vbox, wr, Zeq, if_true, if_false, Nat.reduceEqDiff, Nat.reduceAdd, Nat.reduceLeDiff, Nat.reduceSub, and_self, and_true, true_and, reduceIte, reduceCtorEq, eq_self, implies_true, forall_const, false_implies, imp_self, decide_true, decide_false, fix_nil, fix_cons, t2, t3, t5, g2, g2r, t6, g3, g3r, t7, g6, g6r, t8, ixr, fxr, e3, ixn, fxn, e5, e6, ixp, ldp, Zfm d1]
      exact ⟨k06, bad (row_1 c5 hi3 (by rw [posOk, decide_eq_false d1]))⟩
  obtain rfl : i = (rt routes j).1.length := by omega
  simp (maxSteps := 4000000) (disch := omega) only [Zq, evO, vbox, wr, Zeq, if_true, if_false, Nat.reduceEqDiff, Nat.reduceAdd, Nat.reduceLeDiff, Nat.reduceSub, and_self, and_true, true_and, reduceIte, reduceCtorEq, eq_self, implies_true, forall_const, false_implies, imp_self, decide_true, decide_false, fix_nil, fix_cons, t2, t3, t5, g2, g2r, t6, g3, g3r, t7, g6, g6r, t8, ixr, fxr, e3, ln]
  exact ⟨hin, k3.trans k6, upto_succ hd (by rw [rowOk, hN, allTo_iff.2 he]; simp)⟩
end
end Go.Proofs.Ythjphddodooahaa.AX
