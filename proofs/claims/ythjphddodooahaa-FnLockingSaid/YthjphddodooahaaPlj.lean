/- Ops on lockings: withdrawing, of the program and of the reference. No condition beyond each law's own; of the program: the functions' forms. -/
import Derived.Test.YthjphddodooahaaPli
import Derived.Test.YthjphddodooahaaPlh
namespace Go.Proofs.Ythjphddodooahaa.AX
open Go
set_option maxRecDepth 10000
set_option maxHeartbeats 4000000
set_option linter.unusedSimpArgs false
set_option linter.unusedVariables false
theorem play_3 : IsPlay 3 wiR := by
  intro P B H q v w u vu vr F0 F1 F2 under b routes pos set tk k kB hP hu hr tt hL hok
  refine Run.intro c52 rfl ?_
  simp (maxSteps := 4000000) (disch := omega) only [Zq, evO, vbox, wr, Zeq, if_true, if_false, Nat.reduceEqDiff, Nat.reduceAdd, Nat.reduceLeDiff, Nat.reduceSub, and_self, and_true, true_and, reduceIte, reduceCtorEq, eq_self, implies_true, forall_const, false_implies, imp_self, decide_true, decide_false, x52]
  generalize hG0 : (H.push [vu, .int .i64 b, vr]).push [.int .i64 3, .int .i64 k] = H0
  have k0 : Keep H H0 := by rw [← hG0]; repeat' (first | exact Keep.refl _ | assumption | refine Keep.push' ?_ | refine Keep.set' ?_ ?_ | refine Keep.moved' ?_ ?_ | omega)
  refine GO_call ((r_impl_withdraw (kB.trans k0) hP hu hr tt (hL.keep k0) hok).mono ?_)
  rintro _ H1 ⟨k1, L1, rfl⟩
  simp (maxSteps := 4000000) (disch := omega) only [Zq, evO, vbox, wr, Zeq, if_true, if_false, Nat.reduceEqDiff, Nat.reduceAdd, Nat.reduceLeDiff, Nat.reduceSub, and_self, and_true, true_and, reduceIte, reduceCtorEq, eq_self, implies_true, forall_const, false_implies, imp_self, decide_true, decide_false, fix_nil, fix_cons]
  exact ⟨(KpP.of k0).trans k1, L1⟩
theorem r_impl_Withdraw {H : Heap} {vu vr vp vs vt : Value} {under : List Int} {b : Int} {routes : List Rt} {pos : List Int} {set taken : List Bool} {k : Int} (hu : (rSlc rInt).rd H [vu] under) (hr : (rSlc rRoute).rd H [vr] routes) (hp : (rSlc rInt).rd H [vp] pos) (hs : (rSlc rBool).rd H [vs] set) (ht : (rSlc rBool).rd H [vt] taken) (tt : rPlant.tot (under, b, routes) ≤ 1048576) (tl : rLocking.tot (pos, set, taken) ≤ 1048576) :
    Run Try.prog 17 [.agg #[vu, .int .i64 b, vr], .agg #[vp, vs, vt], .int .i64 k] H fun r H' => Keep H H' ∧ ∃ cs F, r = .tuple #[rLocking.val cs, .int .i64 (opR wiR (under, b, routes) (pos, set, taken) k).2] ∧ rLocking.own H' cs (opR wiR (under, b, routes) (pos, set, taken) k).1 F ∧ Fresh H H' F := by
  refine Run.intro c17 rfl ?_
  simp (maxSteps := 4000000) (disch := omega) only [Zq, evO, vbox, wr, Zeq, if_true, if_false, Nat.reduceEqDiff, Nat.reduceAdd, Nat.reduceLeDiff, Nat.reduceSub, and_self, and_true, true_and, reduceIte, reduceCtorEq, eq_self, implies_true, forall_const, false_implies, imp_self, decide_true, decide_false, x17]
  generalize hG0 : ((H.push [vu, .int .i64 b, vr]).push [vp, vs, vt]).push [.slice none 0 0, .slice none 0 0, .slice none 0 0] = H0
  have k0 : Keep H H0 := by rw [← hG0]; repeat' (first | exact Keep.refl _ | assumption | refine Keep.push' ?_ | refine Keep.set' ?_ ?_ | refine Keep.moved' ?_ ?_ | omega)
  have g0r : H0.get (H.nxt + 2) = some (.own [.slice none 0 0, .slice none 0 0, .slice none 0 0]) := by rw [← hG0]; simp (maxSteps := 4000000) (disch := omega) only [Zq, evO, vbox, wr, Zeq, if_true, if_false, Nat.reduceEqDiff, Nat.reduceAdd, Nat.reduceLeDiff, Nat.reduceSub, and_self, and_true, true_and, reduceIte, reduceCtorEq, eq_self, implies_true, forall_const, false_implies, imp_self, decide_true, decide_false]
  have n0 : H0.nxt = H.nxt + 3 := by rw [← hG0]; simp only [Zbg]
  clear hG0
  refine GO_call ((r_impl_doLock play_3 ((rSlc rInt).rdk hu k0) ((rSlc rRoute).rdk hr k0) ((rSlc rInt).rdk hp k0) ((rSlc rBool).rdk hs k0) ((rSlc rBool).rdk ht k0) tt tl).mono ?_)
  rintro _ H1 ⟨k1, cs, F, rfl, o1, fr⟩
  have n1 := k1.nxt
  obtain ⟨v1, w1, u1, rfl, _⟩ := locking_rd (x0 := (opR wiR (under, b, routes) (pos, set, taken) k).1.1) (x1 := (opR wiR (under, b, routes) (pos, set, taken) k).1.2.1) (x2 := (opR wiR (under, b, routes) (pos, set, taken) k).1.2.2) (rLocking.ownrd o1)
  have g1r := (k1.get (H.nxt + 2) (by omega)).trans g0r
  simp only [locking_val]
  simp (maxSteps := 4000000) (disch := omega) only [Zq, evO, vbox, wr, Zeq, if_true, if_false, Nat.reduceEqDiff, Nat.reduceAdd, Nat.reduceLeDiff, Nat.reduceSub, and_self, and_true, true_and, reduceIte, reduceCtorEq, eq_self, implies_true, forall_const, false_implies, imp_self, decide_true, decide_false, fix_nil, fix_cons, g0r, g1r]
  refine ⟨(k0.trans k1).set' (by omega), [v1, w1, u1], F, rfl, rLocking.ownk o1 (by rw [Zbh]; omega) (fun a ha => ?_), fr.1, fun a ha => ?_⟩
  · have := fr.2 a ha
    rw [Zbi, if_neg (by omega)]
  · have := fr.2 a ha
    rw [Zbh]
    omega
theorem r_spec_Withdraw {H : Heap} {vu vr vp vs vt : Value} {under : List Int} {b : Int} {routes : List Rt} {pos : List Int} {set taken : List Bool} {k : Int} (hu : (rSlc rInt).rd H [vu] under) (hr : (rSlc rRoute).rd H [vr] routes) (hp : (rSlc rInt).rd H [vp] pos) (hs : (rSlc rBool).rd H [vs] set) (ht : (rSlc rBool).rd H [vt] taken) (tt : rPlant.tot (under, b, routes) ≤ 1048576) (tl : rLocking.tot (pos, set, taken) ≤ 1048576) :
    Run Try.prog 35 [.agg #[vu, .int .i64 b, vr], .agg #[vp, vs, vt], .int .i64 k] H fun r H' => Keep H H' ∧ ∃ cs F, r = .tuple #[rLocking.val cs, .int .i64 (opR wiR (under, b, routes) (pos, set, taken) k).2] ∧ rLocking.own H' cs (opR wiR (under, b, routes) (pos, set, taken) k).1 F ∧ Fresh H H' F := by
  obtain ⟨m1, m2, m3⟩ := plant_tot' tt
  have lr : ∀ H : Heap, vlen H vr = some (.int .i64 routes.length, H) := fun _ => slc_len hr
  refine Run.intro c35 rfl ?_
  simp (maxSteps := 4000000) (disch := omega) only [Zq, evO, vbox, wr, Zeq, if_true, if_false, Nat.reduceEqDiff, Nat.reduceAdd, Nat.reduceLeDiff, Nat.reduceSub, and_self, and_true, true_and, reduceIte, reduceCtorEq, eq_self, implies_true, forall_const, false_implies, imp_self, decide_true, decide_false, x35]
  generalize hG0 : ((H.push [vu, .int .i64 b, vr]).push [vp, vs, vt]).push [.slice none 0 0, .slice none 0 0, .slice none 0 0] = H0
  have k0 : Keep H H0 := by rw [← hG0]; repeat' (first | exact Keep.refl _ | assumption | refine Keep.push' ?_ | refine Keep.set' ?_ ?_ | refine Keep.moved' ?_ ?_ | omega)
  have g0 : H0.get H.nxt = some (.own [vu, .int .i64 b, vr]) := by rw [← hG0]; simp (maxSteps := 4000000) (disch := omega) only [Zq, evO, vbox, wr, Zeq, if_true, if_false, Nat.reduceEqDiff, Nat.reduceAdd, Nat.reduceLeDiff, Nat.reduceSub, and_self, and_true, true_and, reduceIte, reduceCtorEq, eq_self, implies_true, forall_const, false_implies, imp_self, decide_true, decide_false]
  have g0l : H0.get (H.nxt + 1) = some (.own [vp, vs, vt]) := by rw [← hG0]; simp (maxSteps := 4000000) (disch := omega) only [Zq, evO, vbox, wr, Zeq, if_true, if_false, Nat.reduceEqDiff, Nat.reduceAdd, Nat.reduceLeDiff, Nat.reduceSub, and_self, and_true, true_and, reduceIte, reduceCtorEq, eq_self, implies_true, forall_const, false_implies, imp_self, decide_true, decide_false]
  have g0r : H0.get (H.nxt + 2) = some (.own [.slice none 0 0, .slice none 0 0, .slice none 0 0]) := by rw [← hG0]; simp (maxSteps := 4000000) (disch := omega) only [Zq, evO, vbox, wr, Zeq, if_true, if_false, Nat.reduceEqDiff, Nat.reduceAdd, Nat.reduceLeDiff, Nat.reduceSub, and_self, and_true, true_and, reduceIte, reduceCtorEq, eq_self, implies_true, forall_const, false_implies, imp_self, decide_true, decide_false]
  have n0 : H0.nxt = H.nxt + 3 := by rw [← hG0]; simp only [Zbg]
  clear hG0
  refine GO_call ((r_spec_l06Copy ((rSlc rInt).rdk hp k0) ((rSlc rBool).rdk hs k0) ((rSlc rBool).rdk ht k0) tl).mono ?_)
  rintro _ H1 ⟨k1, cs, F, rfl, o1, fr⟩
  obtain ⟨v1, w1, u1, rfl, _⟩ := locking_rd (rLocking.ownrd o1)
  have n1 := k1.nxt
  have g1 := (k1.get H.nxt (by omega)).trans g0
  have g1l := (k1.get (H.nxt + 1) (by omega)).trans g0l
  have g1r := (k1.get (H.nxt + 2) (by omega)).trans g0r
  simp only [locking_val]
  simp (maxSteps := 4000000) (disch := omega) only [Zq, evO, vbox, wr, Zeq, if_true, if_false, Nat.reduceEqDiff, Nat.reduceAdd, Nat.reduceLeDiff, Nat.reduceSub, and_self, and_true, true_and, reduceIte, reduceCtorEq, eq_self, implies_true, forall_const, false_implies, imp_self, decide_true, decide_false, fix_nil, fix_cons, g0, g0l, g0r, g1, g1l, g1r]
  generalize hG2 : (H1.push [.slice none 0 0, .slice none 0 0, .slice none 0 0]).set H1.nxt [v1, w1, u1] = H2
  have k2 : Keep H1 H2 := by rw [← hG2]; repeat' (first | exact Keep.refl _ | assumption | refine Keep.push' ?_ | refine Keep.set' ?_ ?_ | refine Keep.moved' ?_ ?_ | omega)
  have g2 : H2.get H1.nxt = some (.own [v1, w1, u1]) := by rw [← hG2, Zbi, if_pos rfl]
  have n2 : H2.nxt = H1.nxt + 1 := by rw [← hG2, Zbh, Zbg]
  obtain ⟨F0, F1, F2, L2⟩ := own_lk o1 fr n1 k2 (by omega) g2
  have g2a := (k2.get H.nxt (by omega)).trans g1
  have g2l := (k2.get (H.nxt + 1) (by omega)).trans g1l
  have g2r := (k2.get (H.nxt + 2) (by omega)).trans g1r
  have k02 : Keep H H2 := k0.trans (k1.trans k2)
  clear hG2 fr o1 g0 g0l g0r g1 g1l g1r
  refine GO_call ((r_spec_LockingOk ((rSlc rInt).rdk hu k02) ((rSlc rRoute).rdk hr k02) ((rSlc rInt).rdk hp k02) ((rSlc rBool).rdk hs k02) ((rSlc rBool).rdk ht k02) tt tl).mono ?_)
  rintro _ H3 ⟨k3, rfl⟩
  have n3 := k3.nxt
  have L3 := L2.keep k3
  have g3a := (k3.get H.nxt (by omega)).trans g2a
  have g3l := (k3.get (H.nxt + 1) (by omega)).trans g2l
  have g3r := (k3.get (H.nxt + 2) (by omega)).trans g2r
  have k03 := k02.trans k3
  have g3q := L3.g
  by_cases c0 : lkOk under b routes pos set taken = true
  rotate_left
  · have c0' : lkOk under b routes pos set taken = false := by simpa using c0
    have e := opR_bad (opf := wiR) (p := (under, b, routes)) (L := (pos, set, taken)) (k := k) c0'
    simp (maxSteps := 4000000) (disch := omega) only [Zq, evO, vbox, wr, Zeq, if_true, if_false, Nat.reduceEqDiff, Nat.reduceAdd, Nat.reduceLeDiff, Nat.reduceSub, and_self, and_true, true_and, reduceIte, reduceCtorEq, eq_self, implies_true, forall_const, false_implies, imp_self, decide_true, decide_false, fix_nil, fix_cons, g2, g2a, g2l, g2r, g3a, g3l, g3r, g3q, c0']
    rw [e]
    exact spec_fin (L := (pos, set, taken)) k03 (by omega) L3 rfl
  have e := opR_ok (opf := wiR) (p := (under, b, routes)) (L := (pos, set, taken)) (k := k) c0
  rw [e]
  obtain ⟨hpl, l1, l2, l3⟩ := lkOk_get c0
  obtain ⟨b1, b2, u16, r12, hpu, hrt⟩ := plOk_get hpl
  have hwb : IntKind.i64.wrap ((routes.length : Int) - 1) = (routes.length : Int) - 1 := wrap64 (by omega) (by omega)
  simp (maxSteps := 4000000) (disch := omega) only [Zq, evO, vbox, wr, Zeq, if_true, if_false, Nat.reduceEqDiff, Nat.reduceAdd, Nat.reduceLeDiff, Nat.reduceSub, and_self, and_true, true_and, reduceIte, reduceCtorEq, eq_self, implies_true, forall_const, false_implies, imp_self, decide_true, decide_false, fix_nil, fix_cons, g2, g2a, g2l, g2r, g3a, g3l, g3r, g3q, c0, lr, hwb]
  refine GO_call ((r_spec_l01In k 0 ((routes.length : Int) - 1) _).mono ?_)
  rintro _ H4 ⟨k4, rfl⟩
  have n4 := k4.nxt
  have g4a := (k4.get (H.nxt) (by omega)).trans g3a
  have g4l := (k4.get (H.nxt + 1) (by omega)).trans g3l
  have g4r := (k4.get (H.nxt + 2) (by omega)).trans g3r
  have L4 := L3.keep k4
  have k04 := k03.trans k4
  have g4q := L4.g
  by_cases c1 : inR 0 ((routes.length : Int) - 1) k = true
  rotate_left
  · have c1' : inR 0 ((routes.length : Int) - 1) k = false := by simpa using c1
    simp (maxSteps := 4000000) (disch := omega) only [Zq, evO, vbox, wr, Zeq, if_true, if_false, Nat.reduceEqDiff, Nat.reduceAdd, Nat.reduceLeDiff, Nat.reduceSub, and_self, and_true, true_and, reduceIte, reduceCtorEq, eq_self, implies_true, forall_const, false_implies, imp_self, decide_true, decide_false, fix_nil, fix_cons, g2, g2a, g2l, g2r, g3a, g3l, g3r, g3q, g4a, g4l, g4r, g4q, c1']
    have hv : wiR under b routes (pos, set, taken) k = ((pos, set, taken), 1) := by rw [wiR, if_neg c1]
    rw [hv]
    exact spec_fin (L := (pos, set, taken)) k04 (by omega) L4 rfl
  obtain ⟨n, rfl, hn⟩ := int_nat c1
  have hnr : n < routes.length := by omega
  have hns : n < set.length := by omega
  have eb := bool_el ((rSlc rBool).rdk hs k04) hns
  have ixb := fun H0 : Heap => slc_idx (r := rBool) (H1 := H0) (sz := 1) (i := n) (k := .i64) rfl hs hns
  have ixq := fun H0 : Heap => slc_idx (r := rBool) (H1 := H0) (sz := 1) (i := n) (k := .i64) rfl ((rSlc rBool).ownrd L4.o1) hns
  have hv : wiR under b routes (pos, set, taken) n = (if set.getD n false = true then (if freeR taken (rt routes n).2 = true then ((pos, set.set n false, taken), 0) else ((pos, set, taken), 4)) else ((pos, set, taken), 6)) := by rw [wiR, if_pos c1, Int.toNat_natCast]
  by_cases c2 : set.getD n false = true
  rotate_left
  · have c2' : set.getD n false = false := by simpa using c2
    rw [if_neg c2] at hv
    rw [c2'] at eb
    simp (maxSteps := 4000000) (disch := omega) only [Zq, evO, vbox, wr, Zeq, if_true, if_false, Nat.reduceEqDiff, Nat.reduceAdd, Nat.reduceLeDiff, Nat.reduceSub, and_self, and_true, true_and, reduceIte, reduceCtorEq, eq_self, implies_true, forall_const, false_implies, imp_self, decide_true, decide_false, fix_nil, fix_cons, g2, g2a, g2l, g2r, g3a, g3l, g3r, g3q, g4a, g4l, g4r, g4q, c1, ixb, eb]
    rw [hv]
    exact spec_fin (L := (pos, set, taken)) k04 (by omega) L4 rfl
  rw [if_pos c2] at hv
  rw [c2] at eb
  obtain ⟨vn, vb, _, _, e3, hnn, hbb⟩ := route_el ((rSlc rRoute).rdk hr k04) hnr
  obtain ⟨r1, r2⟩ := rt_tot m3 hnr
  have ixr := fun H0 : Heap => slc_idx (r := rRoute) (H1 := H0) (sz := 2) (i := n) (k := .i64) rfl hr hnr
  have fxr := fun (H0 : Heap) (o off : Nat) => slc_fad (r := rRoute) (H1 := H0) (sz := 2) (o := o) (off := off) rfl hr hnr
  have lb : ∀ H : Heap, vlen H vb = some (.int .i64 (rt routes n).2.length, H) := fun _ => slc_len hbb
  simp (maxSteps := 4000000) (disch := omega) only [Zq, evO, vbox, wr, Zeq, if_true, if_false, Nat.reduceEqDiff, Nat.reduceAdd, Nat.reduceLeDiff, Nat.reduceSub, and_self, and_true, true_and, reduceIte, reduceCtorEq, eq_self, implies_true, forall_const, false_implies, imp_self, decide_true, decide_false, fix_nil, fix_cons, g2, g2a, g2l, g2r, g3a, g3l, g3r, g3q, g4a, g4l, g4r, g4q, c1, ixb, eb]
  first | refine G_fix [2, 3, 4, 6, 8, 9] ?_ | refine GO_fix [2, 3, 4, 6, 8, 9] ?_ | refine cK_fix [2, 3, 4, 6, 8, 9] ?_
  intro T hT
  simp only [fix_nil, fix_cons, Zq, evO, vbox, wr, Zeq, if_true, if_false, Nat.reduceEqDiff, Nat.reduceAdd, Nat.reduceLeDiff, Nat.reduceSub, and_self, and_true, true_and, reduceIte, reduceCtorEq, eq_self, implies_true, forall_const, false_implies, imp_self, decide_true, decide_false] at hT
  obtain ⟨t2, t3, t4, t6, t8, t9⟩ := hT
  refine G_forF [2, 3, 4, 6, 8] ((rt routes n).2.length) (fun i T H5 => T 9 = .int .i64 (i : Int) ∧ H5 = H4 ∧ ∀ j, j < i → (!(taken.getD ((rt routes n).2.getD j 0).toNat false)) = true) 0 (Nat.zero_le _) ?_ ?_
  · simp (maxSteps := 4000000) (disch := omega) only [Zq, evO, vbox, wr, Zeq, if_true, if_false, Nat.reduceEqDiff, Nat.reduceAdd, Nat.reduceLeDiff, Nat.reduceSub, and_self, and_true, true_and, reduceIte, reduceCtorEq, eq_self, implies_true, forall_const, false_implies, imp_self, decide_true, decide_false, fix_nil, fix_cons, g2, g2a, g2l, g2r, g3a, g3l, g3r, g3q, g4a, g4l, g4r, g4q, t2, t3, t4, t6, t8, t9]
    exact fun j hj => by omega
  rintro i T H5 hi hT ⟨t9, h5, ha⟩
  simp only [fix_nil, fix_cons, Zq, evO, vbox, wr, Zeq, if_true, if_false, Nat.reduceEqDiff, Nat.reduceAdd, Nat.reduceLeDiff, Nat.reduceSub, and_self, and_true, true_and, reduceIte, reduceCtorEq, eq_self, implies_true, forall_const, false_implies, imp_self, decide_true, decide_false, t2, t3, t4, t6, t8, t9] at hT
  obtain ⟨t2, t3, t4, t6, t8⟩ := hT
  subst h5
  by_cases hil : i < (rt routes n).2.length
  · have hbi := ints_of hbb
    have hlt := rtOk_bk (hrt n hnr) hil
    have hn2 : ((rt routes n).2.getD i 0).toNat < taken.length := by omega
    have cst : (rt routes n).2.getD i 0 = ((((rt routes n).2.getD i 0).toNat : Nat) : Int) := by omega
    have ixt : ∀ H0 : Heap, vidx H0 1 vt (.int .i64 ((rt routes n).2.getD i 0)) = some (adr vt ((rt routes n).2.getD i 0).toNat 1 0, H0) := fun H0 => by
      have := slc_idx (r := rBool) (H1 := H0) (sz := 1) (k := .i64) rfl ht hn2
      rwa [← cst] at this
    have et := bool_el ((rSlc rBool).rdk ht k04) hn2
    simp (maxSteps := 4000000) (disch := omega) only [Zq, evO, vbox, wr, Zeq, if_true, if_false, Nat.reduceEqDiff, Nat.reduceAdd, Nat.reduceLeDiff, Nat.reduceSub, and_self, and_true, true_and, reduceIte, reduceCtorEq, eq_self, implies_true, forall_const, false_implies, imp_self, decide_true, decide_false, fix_nil, fix_cons, g2, g2a, g2l, g2r, g3a, g3l, g3r, g3q, g4a, g4l, g4r, g4q, t2, t3, t4, t6, t8, t9, ixr, fxr, e3, lb]
    refine G_calm rfl ?_
    by_cases d1 : taken.getD ((rt routes n).2.getD i 0).toNat false = true
    · rw [if_neg (by rw [freeR, allTo_bad (f := fun i => !(taken.getD ((rt routes n).2.getD i 0).toNat false)) hil (by show (!_) = false; rw [d1]; rfl)]; simp)] at hv
      rw [d1] at et
      simp (maxSteps := 4000000) (disch := omega) only [Zq, evO, vbox, wr, Zeq, if_true, if_false, Nat.reduceEqDiff, Nat.reduceAdd, Nat.reduceLeDiff, Nat.reduceSub, and_self, and_true, true_and, reduceIte, reduceCtorEq, eq_self, implies_true, forall_const, false_implies, imp_self, decide_true, decide_false, fix_nil, fix_cons, g2, g2a, g2l, g2r, g3a, g3l, g3r, g3q, g4a, g4l, g4r, g4q, t2, t3, t4, t6, t8, t9, ixr, fxr, e3, lb, hbi.idx hil, hbi.ld hil, ixt, et]
      rw [hv]
      exact spec_fin (L := (pos, set, taken)) k04 (by omega) L4 rfl
    · have d1' : taken.getD ((rt routes n).2.getD i 0).toNat false = false := by simpa using d1
      rw [d1'] at et
      simp (maxSteps := 4000000) (disch := omega) only [Zq, evO, vbox, wr, Zeq, if_true, if_false, Nat.reduceEqDiff, Nat.reduceAdd, Nat.reduceLeDiff, Nat.reduceSub, and_self, and_true, true_and, reduceIte, reduceCtorEq, eq_self, implies_true, forall_const, false_implies, imp_self, decide_true, decide_false, fix_nil, fix_cons, g2, g2a, g2l, g2r, g3a, g3l, g3r, g3q, g4a, g4l, g4r, g4q, t2, t3, t4, t6, t8, t9, ixr, fxr, e3, lb, hbi.idx hil, hbi.ld hil, ixt, et]
      exact ⟨hil, upto_succ (f := fun i => !(taken.getD ((rt routes n).2.getD i 0).toNat false)) ha (by show (!_) = true; rw [d1']; rfl)⟩
  obtain rfl : i = (rt routes n).2.length := by omega
  rw [if_pos (by rw [freeR, allTo_iff (f := fun i => !(taken.getD ((rt routes n).2.getD i 0).toNat false)) |>.2 ha])] at hv
  obtain ⟨H6, e6, L6, q6, n6, _⟩ := L4.st1 hns false
  have g6q := L6.g
  have g6r := (q6.get (H.nxt + 2) (by omega) (fun hh => by have : H0.nxt ≤ H.nxt + 2 := hh; omega)).trans g4r
  have k06 : Keep H H6 := q6.keep k04 (fun a (ha : H0.nxt ≤ a) => by omega)
  simp (maxSteps := 4000000) (disch := omega) only [Zq, evO, vbox, wr, Zeq, if_true, if_false, Nat.reduceEqDiff, Nat.reduceAdd, Nat.reduceLeDiff, Nat.reduceSub, and_self, and_true, true_and, reduceIte, reduceCtorEq, eq_self, implies_true, forall_const, false_implies, imp_self, decide_true, decide_false, fix_nil, fix_cons, g2, g2a, g2l, g2r, g3a, g3l, g3r, g3q, g4a, g4l, g4r, g4q, t2, t3, t4, t6, t8, t9, g6q, g6r, ixr, fxr, e3, lb, ixq, e6]
  rw [hv]
  exact spec_fin (L := (pos, set.set n false, taken)) k06 (by omega) L6 rfl
end Go.Proofs.Ythjphddodooahaa.AX
