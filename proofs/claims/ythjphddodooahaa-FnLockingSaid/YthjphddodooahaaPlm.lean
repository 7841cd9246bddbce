/- Ops on lockings: requesting, of the program and of the reference. No condition beyond each law's own; of the program: the functions' forms. -/
import Derived.Test.YthjphddodooahaaPll
import Derived.Test.YthjphddodooahaaPlh
namespace Go.Proofs.Ythjphddodooahaa.AX
open Go
set_option maxRecDepth 10000
set_option maxHeartbeats 4000000
set_option linter.unusedSimpArgs false
set_option linter.unusedVariables false
theorem play_0 : IsPlay 0 rqR := by
  intro P B H q v w u vu vr F0 F1 F2 under b routes pos set tk k kB hP hu hr tt hL hok
  refine Run.intro c52 rfl ?_
  simp (maxSteps := 4000000) (disch := omega) only [Zq, evO, vbox, wr, Zeq, if_true, if_false, Nat.reduceEqDiff, Nat.reduceAdd, Nat.reduceLeDiff, Nat.reduceSub, and_self, and_true, true_and, reduceIte, reduceCtorEq, eq_self, implies_true, forall_const, false_implies, imp_self, decide_true, decide_false, x52]
  generalize hG0 : (H.push [vu, .int .i64 b, vr]).push [.int .i64 0, .int .i64 k] = H0
  have k0 : Keep H H0 := by rw [← hG0]; repeat' (first | exact Keep.refl _ | assumption | refine Keep.push' ?_ | refine Keep.set' ?_ ?_ | refine Keep.moved' ?_ ?_ | omega)
  refine GO_call ((r_impl_request (kB.trans k0) hP hu hr tt (hL.keep k0) hok).mono ?_)
  rintro _ H1 ⟨k1, L1, rfl⟩
  simp (maxSteps := 4000000) (disch := omega) only [Zq, evO, vbox, wr, Zeq, if_true, if_false, Nat.reduceEqDiff, Nat.reduceAdd, Nat.reduceLeDiff, Nat.reduceSub, and_self, and_true, true_and, reduceIte, reduceCtorEq, eq_self, implies_true, forall_const, false_implies, imp_self, decide_true, decide_false, fix_nil, fix_cons]
  exact ⟨(KpP.of k0).trans k1, L1⟩
theorem r_impl_Request {H : Heap} {vu vr vp vs vt : Value} {under : List Int} {b : Int} {routes : List Rt} {pos : List Int} {set taken : List Bool} {k : Int} (hu : (rSlc rInt).rd H [vu] under) (hr : (rSlc rRoute).rd H [vr] routes) (hp : (rSlc rInt).rd H [vp] pos) (hs : (rSlc rBool).rd H [vs] set) (ht : (rSlc rBool).rd H [vt] taken) (tt : rPlant.tot (under, b, routes) ≤ 1048576) (tl : rLocking.tot (pos, set, taken) ≤ 1048576) :
    Run Try.prog 14 [.agg #[vu, .int .i64 b, vr], .agg #[vp, vs, vt], .int .i64 k] H fun r H' => Keep H H' ∧ ∃ cs F, r = .tuple #[rLocking.val cs, .int .i64 (opR rqR (under, b, routes) (pos, set, taken) k).2] ∧ rLocking.own H' cs (opR rqR (under, b, routes) (pos, set, taken) k).1 F ∧ Fresh H H' F := by
  refine Run.intro c14 rfl ?_
  simp (maxSteps := 4000000) (disch := omega) only [Zq, evO, vbox, wr, Zeq, if_true, if_false, Nat.reduceEqDiff, Nat.reduceAdd, Nat.reduceLeDiff, Nat.reduceSub, and_self, and_true, true_and, reduceIte, reduceCtorEq, eq_self, implies_true, forall_const, false_implies, imp_self, decide_true, decide_false, x14]
  generalize hG0 : ((H.push [vu, .int .i64 b, vr]).push [vp, vs, vt]).push [.slice none 0 0, .slice none 0 0, .slice none 0 0] = H0
  have k0 : Keep H H0 := by rw [← hG0]; repeat' (first | exact Keep.refl _ | assumption | refine Keep.push' ?_ | refine Keep.set' ?_ ?_ | refine Keep.moved' ?_ ?_ | omega)
  have g0r : H0.get (H.nxt + 2) = some (.own [.slice none 0 0, .slice none 0 0, .slice none 0 0]) := by rw [← hG0]; simp (maxSteps := 4000000) (disch := omega) only [Zq, evO, vbox, wr, Zeq, if_true, if_false, Nat.reduceEqDiff, Nat.reduceAdd, Nat.reduceLeDiff, Nat.reduceSub, and_self, and_true, true_and, reduceIte, reduceCtorEq, eq_self, implies_true, forall_const, false_implies, imp_self, decide_true, decide_false]
  have n0 : H0.nxt = H.nxt + 3 := by rw [← hG0]; simp only [Zbg]
  clear hG0
  refine GO_call ((r_impl_doLock play_0 ((rSlc rInt).rdk hu k0) ((rSlc rRoute).rdk hr k0) ((rSlc rInt).rdk hp k0) ((rSlc rBool).rdk hs k0) ((rSlc rBool).rdk ht k0) tt tl).mono ?_)
  rintro _ H1 ⟨k1, cs, F, rfl, o1, fr⟩
  have n1 := k1.nxt
  obtain ⟨v1, w1, u1, rfl, _⟩ := locking_rd (x0 := (opR rqR (under, b, routes) (pos, set, taken) k).1.1) (x1 := (opR rqR (under, b, routes) (pos, set, taken) k).1.2.1) (x2 := (opR rqR (under, b, routes) (pos, set, taken) k).1.2.2) (rLocking.ownrd o1)
  have g1r := (k1.get (H.nxt + 2) (by omega)).trans g0r
  simp only [locking_val]
  simp (maxSteps := 4000000) (disch := omega) only [Zq, evO, vbox, wr, Zeq, if_true, if_false, Nat.reduceEqDiff, Nat.reduceAdd, Nat.reduceLeDiff, Nat.reduceSub, and_self, and_true, true_and, reduceIte, reduceCtorEq, eq_self, implies_true, forall_const, false_implies, imp_self, decide_true, decide_false, fix_nil, fix_cons, g0r, g1r]
  refine ⟨(k0.trans k1).set' (by omega), [v1, w1, u1], F, rfl, rLocking.ownk o1 (by rw [Zbh]; omega) (fun a ha => ?_), fr.1, fun a ha => ?_⟩
  · have := fr.2 a ha
    rw [Zbi, if_neg (by omega)]
  · have := fr.2 a ha
    rw [Zbh]
    omega
theorem r_spec_Request {H : Heap} {vu vr vp vs vt : Value} {under : List Int} {b : Int} {routes : List Rt} {pos : List Int} {set taken : List Bool} {k : Int} (hu : (rSlc rInt).rd H [vu] under) (hr : (rSlc rRoute).rd H [vr] routes) (hp : (rSlc rInt).rd H [vp] pos) (hs : (rSlc rBool).rd H [vs] set) (ht : (rSlc rBool).rd H [vt] taken) (tt : rPlant.tot (under, b, routes) ≤ 1048576) (tl : rLocking.tot (pos, set, taken) ≤ 1048576) :
    Run Try.prog 36 [.agg #[vu, .int .i64 b, vr], .agg #[vp, vs, vt], .int .i64 k] H fun r H' => Keep H H' ∧ ∃ cs F, r = .tuple #[rLocking.val cs, .int .i64 (opR rqR (under, b, routes) (pos, set, taken) k).2] ∧ rLocking.own H' cs (opR rqR (under, b, routes) (pos, set, taken) k).1 F ∧ Fresh H H' F := by
  obtain ⟨m1, m2, m3⟩ := plant_tot' tt
  have lr : ∀ H : Heap, vlen H vr = some (.int .i64 routes.length, H) := fun _ => slc_len hr
  refine Run.intro c36 rfl ?_
  simp (maxSteps := 4000000) (disch := omega) only [Zq, evO, vbox, wr, Zeq, if_true, if_false, Nat.reduceEqDiff, Nat.reduceAdd, Nat.reduceLeDiff, Nat.reduceSub, and_self, and_true, true_and, reduceIte, reduceCtorEq, eq_self, implies_true, forall_const, false_implies, imp_self, decide_true, decide_false, x36]
  generalize hG0 : ((H.push [vu, .int .i64 b, vr]).push [vp, vs, vt]).push [.slice none 0 0, .slice none 0 0, .slice none 0 0] = H0
  have k0 : Keep H H0 := by rw [← hG0]; repeat' (first | exact Keep.refl _ | assumption | refine Keep.push' ?_ | refine Keep.set' ?_ ?_ | refine Keep.moved' ?_ ?_ | omega)
  have g0 : H0.get H.nxt = some (.own [vu, .int .i64 b, vr]) := by rw [← hG0]; simp (maxSteps := 4000000) (disch := omega) only [Zq, evO, vbox, wr, Zeq, if_true, if_false, Nat.reduceEqDiff, Nat.reduceAdd, Nat.reduceLeDiff, Nat.reduceSub, and_self, and_true, true_and, reduceIte, reduceCtorEq, eq_self, implies_true, forall_const, false_implies, imp_self, decide_true, decide_false]
  have g0l : H0.get (H.nxt + 1) = some (.own [vp, vs, vt]) := by rw [← hG0]; simp (maxSteps := 4000000) (disch := omega) only [Zq, evO, vbox, wr, Zeq, if_true, if_false, Nat.reduceEqDiff, Nat.reduceAdd, Nat.reduceLeDiff, Nat.reduceSub, and_self, and_true, true_and, reduceIte, reduceCtorEq, eq_self, implies_true, forall_const, false_implies, imp_self, decide_true, decide_false]
  have g0r : H0.get (H.nxt + 2) = some (.own [.slice none 0 0, .slice none 0 0, .slice none 0 0]) := by rw [← hG0]; simp (maxSteps := 4000000) (disch := omega) only [Zq, evO, vbox, wr, Zeq, if_true, if_false, Nat.reduceEqDiff, Nat.reduceAdd, Nat.reduceLeDiff, Nat.reduceSub, and_self, and_true, true_and, reduceIte, reduceCtorEq, eq_self, implies_true, forall_const, false_implies, imp_self, decide_true, decide_false]
  have n0 : H0.nxt = H.nxt + 3 := by rw [← hG0]; simp only [Zbg]
  clear hG0
  refine GO_call ((r_spec_l06Copy ((rSlc rInt).rdk hp k0) ((rSlc rBool).rdk hs k0) ((rSlc rBool).rdk ht k0) tl).mono ?_)
  rintro _ H1 ⟨k1, cs, F, rfl, o1, fr⟩
  obtain ⟨v1, w1, u1, rfl, _⟩ := locking_rd (rLocking.ownrd o1)
  have n1 := k1.nxt
  have g1 := (k1.get H.nxt (by omega)).trans g0
  have g1l := (k1.get (H.nxt + 1) (by omega)).trans g0l
  have g1r := (k1.get (H.nxt + 2) (by omega)).trans g0r
  simp only [locking_val]
  simp (maxSteps := 4000000) (disch := omega) only [Zq, evO, vbox, wr, Zeq, if_true, if_false, Nat.reduceEqDiff, Nat.reduceAdd, Nat.reduceLeDiff, Nat.reduceSub, and_self, and_true, true_and, reduceIte, reduceCtorEq, eq_self, implies_true, forall_const, false_implies, imp_self, decide_true, decide_false, fix_nil, fix_cons, g0, g0l, g0r, g1, g1l, g1r]
  generalize hG2 : (H1.push [.slice none 0 0, .slice none 0 0, .slice none 0 0]).set H1.nxt [v1, w1, u1] = H2
  have k2 : Keep H1 H2 := by rw [← hG2]; repeat' (first | exact Keep.refl _ | assumption | refine Keep.push' ?_ | refine Keep.set' ?_ ?_ | refine Keep.moved' ?_ ?_ | omega)
  have g2 : H2.get H1.nxt = some (.own [v1, w1, u1]) := by rw [← hG2, Zbi, if_pos rfl]
  have n2 : H2.nxt = H1.nxt + 1 := by rw [← hG2, Zbh, Zbg]
  obtain ⟨F0, F1, F2, L2⟩ := own_lk o1 fr n1 k2 (by omega) g2
  have g2a := (k2.get H.nxt (by omega)).trans g1
  have g2l := (k2.get (H.nxt + 1) (by omega)).trans g1l
  have g2r := (k2.get (H.nxt + 2) (by omega)).trans g1r
  have k02 : Keep H H2 := k0.trans (k1.trans k2)
  clear hG2 fr o1 g0 g0l g0r g1 g1l g1r
  refine GO_call ((r_spec_LockingOk ((rSlc rInt).rdk hu k02) ((rSlc rRoute).rdk hr k02) ((rSlc rInt).rdk hp k02) ((rSlc rBool).rdk hs k02) ((rSlc rBool).rdk ht k02) tt tl).mono ?_)
  rintro _ H3 ⟨k3, rfl⟩
  have n3 := k3.nxt
  have L3 := L2.keep k3
  have g3a := (k3.get H.nxt (by omega)).trans g2a
  have g3l := (k3.get (H.nxt + 1) (by omega)).trans g2l
  have g3r := (k3.get (H.nxt + 2) (by omega)).trans g2r
  have k03 := k02.trans k3
  have g3q := L3.g
  by_cases c0 : lkOk under b routes pos set taken = true
  rotate_left
  · have c0' : lkOk under b routes pos set taken = false := by simpa using c0
    have e := opR_bad (opf := rqR) (p := (under, b, routes)) (L := (pos, set, taken)) (k := k) c0'
    simp (maxSteps := 4000000) (disch := omega) only [Zq, evO, vbox, wr, Zeq, if_true, if_false, Nat.reduceEqDiff, Nat.reduceAdd, Nat.reduceLeDiff, Nat.reduceSub, and_self, and_true, true_and, reduceIte, reduceCtorEq, eq_self, implies_true, forall_const, false_implies, imp_self, decide_true, decide_false, fix_nil, fix_cons, g2, g2a, g2l, g2r, g3a, g3l, g3r, g3q, c0']
    rw [e]
    exact spec_fin (L := (pos, set, taken)) k03 (by omega) L3 rfl
  have e := opR_ok (opf := rqR) (p := (under, b, routes)) (L := (pos, set, taken)) (k := k) c0
  rw [e]
  obtain ⟨hpl, l1, l2, l3⟩ := lkOk_get c0
  obtain ⟨b1, b2, u16, r12, hpu, hrt⟩ := plOk_get hpl
  have hwb : IntKind.i64.wrap ((routes.length : Int) - 1) = (routes.length : Int) - 1 := wrap64 (by omega) (by omega)
  simp (maxSteps := 4000000) (disch := omega) only [Zq, evO, vbox, wr, Zeq, if_true, if_false, Nat.reduceEqDiff, Nat.reduceAdd, Nat.reduceLeDiff, Nat.reduceSub, and_self, and_true, true_and, reduceIte, reduceCtorEq, eq_self, implies_true, forall_const, false_implies, imp_self, decide_true, decide_false, fix_nil, fix_cons, g2, g2a, g2l, g2r, g3a, g3l, g3r, g3q, c0, lr, hwb]
  refine GO_call ((r_spec_l01In k 0 ((routes.length : Int) - 1) _).mono ?_)
  rintro _ H4 ⟨k4, rfl⟩
  have n4 := k4.nxt
  have g4a := (k4.get (H.nxt) (by omega)).trans g3a
  have g4l := (k4.get (H.nxt + 1) (by omega)).trans g3l
  have g4r := (k4.get (H.nxt + 2) (by omega)).trans g3r
  have L4 := L3.keep k4
  have k04 := k03.trans k4
  have g4q := L4.g
  by_cases c1 : inR 0 ((routes.length : Int) - 1) k = true
  rotate_left
  · have c1' : inR 0 ((routes.length : Int) - 1) k = false := by simpa using c1
    simp (maxSteps := 4000000) (disch := omega) only [Zq, evO, vbox, wr, Zeq, if_true, if_false, Nat.reduceEqDiff, Nat.reduceAdd, Nat.reduceLeDiff, Nat.reduceSub, and_self, and_true, true_and, reduceIte, reduceCtorEq, eq_self, implies_true, forall_const, false_implies, imp_self, decide_true, decide_false, fix_nil, fix_cons, g2, g2a, g2l, g2r, g3a, g3l, g3r, g3q, g4a, g4l, g4r, g4q, c1']
    have hv : rqR under b routes (pos, set, taken) k = ((pos, set, taken), 1) := by rw [rqR, if_neg c1]
    rw [hv]
    exact spec_fin (L := (pos, set, taken)) k04 (by omega) L4 rfl
  obtain ⟨n, rfl, hn⟩ := int_nat c1
  have hnr : n < routes.length := by omega
  have hns : n < set.length := by omega
  have hv : rqR under b routes (pos, set, taken) n = (if set.getD n false = true then ((pos, set, taken), 2) else (if allTo routes.length (agRow set routes n) = true then (if freeR taken (rt routes n).2 = true then (if allTo (rt routes n).1.length (stNo pos taken under (rt routes n).1) = true then ((setN pos (rt routes n).1, set.set n true, taken), 0) else ((pos, set, taken), 5)) else ((pos, set, taken), 4)) else ((pos, set, taken), 3))) := by rw [rqR, if_pos c1, Int.toNat_natCast]
  obtain ⟨vn, vb, hnn, hbb, ld⟩ := route_elK hr hnr
  obtain ⟨r1, r2⟩ := rt_tot m3 hnr
  have e3 := (ld H4 k04).1
  have ixb := fun H0 : Heap => slc_idx (r := rBool) (H1 := H0) (sz := 1) (i := n) (k := .i64) rfl hs hns
  have ixq := fun H0 : Heap => slc_idx (r := rBool) (H1 := H0) (sz := 1) (i := n) (k := .i64) rfl ((rSlc rBool).ownrd L4.o1) hns
  have kx : Keep H4 ((H4.push [.slice none 0 0, .slice none 0 0]).set H4.nxt [vn, vb]) := by repeat' (first | exact Keep.refl _ | assumption | refine Keep.push' ?_ | refine Keep.set' ?_ ?_ | refine Keep.moved' ?_ ?_ | omega)
  have L5 := L4.keep kx
  have g5q := L5.g
  have hqn : H1.nxt ≠ H4.nxt := by have := L4.lt; omega
  have L4P : Lk (fun a => H0.nxt ≤ a ∧ a ≠ H4.nxt) H4 H1.nxt v1 w1 u1 F0 F1 F2 pos set taken := ⟨⟨L4.hq, hqn⟩, L4.lt, L4.g, L4.o0, L4.o1, L4.o2, L4.nd, fun a ha => ⟨⟨(L4.pf a ha).1, by have := rLocking.ownlt (locking_own' L4.o0 L4.o1 L4.o2) a ha; omega⟩, (L4.pf a ha).2⟩⟩
  have es := bool_el ((rSlc rBool).rdk hs (k04.trans kx)) hns
  have g5a := (kx.get H.nxt (by omega)).trans g4a
  have g5l := (kx.get (H.nxt + 1) (by omega)).trans g4l
  have g5r := (kx.get (H.nxt + 2) (by omega)).trans g4r
  have k05 := k04.trans kx
  by_cases c2 : set.getD n false = true
  · rw [if_pos c2] at hv
    rw [c2] at es
    simp (maxSteps := 4000000) (disch := omega) only [Zq, evO, vbox, wr, Zeq, if_true, if_false, Nat.reduceEqDiff, Nat.reduceAdd, Nat.reduceLeDiff, Nat.reduceSub, and_self, and_true, true_and, reduceIte, reduceCtorEq, eq_self, implies_true, forall_const, false_implies, imp_self, decide_true, decide_false, fix_nil, fix_cons, g2, g2a, g2l, g2r, g3a, g3l, g3r, g3q, g4a, g4l, g4r, g4q, g5q, g5a, g5l, g5r, c1, slc_idx (r := rRoute) (sz := 2) rfl hr hnr, e3, ixb, es]
    rw [hv]
    exact spec_fin (L := (pos, set, taken)) k05 (by omega) L5 rfl
  have c2' : set.getD n false = false := by simpa using c2
  rw [if_neg c2] at hv
  rw [c2'] at es
  simp (maxSteps := 4000000) (disch := omega) only [Zq, evO, vbox, wr, Zeq, if_true, if_false, Nat.reduceEqDiff, Nat.reduceAdd, Nat.reduceLeDiff, Nat.reduceSub, and_self, and_true, true_and, reduceIte, reduceCtorEq, eq_self, implies_true, forall_const, false_implies, imp_self, decide_true, decide_false, fix_nil, fix_cons, g2, g2a, g2l, g2r, g3a, g3l, g3r, g3q, g4a, g4l, g4r, g4q, g5q, g5a, g5l, g5r, c1, slc_idx (r := rRoute) (sz := 2) rfl hr hnr, e3, ixb, es]
  have g5x : ((H4.push [.slice none 0 0, .slice none 0 0]).set H4.nxt [vn, vb]).get H4.nxt = some (.own [vn, vb]) := by rw [Zbi, if_pos rfl]
  have n5x : ((H4.push [.slice none 0 0, .slice none 0 0]).set H4.nxt [vn, vb]).nxt = H4.nxt + 1 := by rw [Zbh, Zbg]
  generalize (H4.push [.slice none 0 0, .slice none 0 0]).set H4.nxt [vn, vb] = H5 at *
  clear e3 es g3a g3l g3r g4a g4l g4r g3q g4q L3 L2
  first | refine G_fix [2, 3, 4, 6, 8, 9, 10] ?_ | refine GO_fix [2, 3, 4, 6, 8, 9, 10] ?_ | refine cK_fix [2, 3, 4, 6, 8, 9, 10] ?_
  intro T hT
  simp only [fix_nil, fix_cons, Zq, evO, vbox, wr, Zeq, if_true, if_false, Nat.reduceEqDiff, Nat.reduceAdd, Nat.reduceLeDiff, Nat.reduceSub, and_self, and_true, true_and, reduceIte, reduceCtorEq, eq_self, implies_true, forall_const, false_implies, imp_self, decide_true, decide_false] at hT
  obtain ⟨t2, t3, t4, t6, t8, t9, t10⟩ := hT
  refine G_forF [2, 3, 4, 6, 8, 9] (routes.length) (fun j T H6 => T 10 = .int .i64 (j : Int) ∧ Keep H5 H6 ∧ ∀ a, a < j → agRow set routes n a = true) 0 (Nat.zero_le _) ?_ ?_
  · simp (maxSteps := 4000000) (disch := omega) only [Zq, evO, vbox, wr, Zeq, if_true, if_false, Nat.reduceEqDiff, Nat.reduceAdd, Nat.reduceLeDiff, Nat.reduceSub, and_self, and_true, true_and, reduceIte, reduceCtorEq, eq_self, implies_true, forall_const, false_implies, imp_self, decide_true, decide_false, fix_nil, fix_cons, g2, g2a, g2l, g2r, g5q, g5a, g5l, g5r, g5x, t2, t3, t4, t6, t8, t9, t10]
    exact ⟨Keep.refl _, fun j hj => by omega⟩
  rintro j T H6 hj hT ⟨t10, k6, ha⟩
  simp only [fix_nil, fix_cons, Zq, evO, vbox, wr, Zeq, if_true, if_false, Nat.reduceEqDiff, Nat.reduceAdd, Nat.reduceLeDiff, Nat.reduceSub, and_self, and_true, true_and, reduceIte, reduceCtorEq, eq_self, implies_true, forall_const, false_implies, imp_self, decide_true, decide_false, t2, t3, t4, t6, t8, t9, t10] at hT
  obtain ⟨t2, t3, t4, t6, t8, t9⟩ := hT
  have n6 := k6.nxt
  have L6 := L5.keep k6
  have k06 := k05.trans k6
  have g6q := L6.g
  have g6x := (k6.get H4.nxt (by omega)).trans g5x
  have g6a := (k6.get H.nxt (by omega)).trans g5a
  have g6l := (k6.get (H.nxt + 1) (by omega)).trans g5l
  have g6r := (k6.get (H.nxt + 2) (by omega)).trans g5r
  by_cases hja : j < routes.length
  · have hjs : j < set.length := by omega
    have es := bool_el ((rSlc rBool).rdk hs k06) hjs
    have ixj := fun H0 : Heap => slc_idx (r := rBool) (H1 := H0) (sz := 1) (i := j) (k := .i64) rfl hs hjs
    obtain ⟨wn, wb, hwn, hwb2, ldj⟩ := route_elK hr hja
    obtain ⟨q1, q2⟩ := rt_tot m3 hja
    have e7 := (ldj H6 k06).1
    by_cases c6 : set.getD j false = true
    rotate_left
    · have c6' : set.getD j false = false := by simpa using c6
      rw [c6'] at es
      simp (maxSteps := 4000000) (disch := omega) only [Zq, evO, vbox, wr, Zeq, if_true, if_false, Nat.reduceEqDiff, Nat.reduceAdd, Nat.reduceLeDiff, Nat.reduceSub, and_self, and_true, true_and, reduceIte, reduceCtorEq, eq_self, implies_true, forall_const, false_implies, imp_self, decide_true, decide_false, fix_nil, fix_cons, g2, g2a, g2l, g2r, g5q, g5a, g5l, g5r, g5x, t2, t3, t4, t6, t8, t9, t10, g6q, g6x, g6a, g6l, g6r, lr]
      refine G_tame rfl ?_
      simp (maxSteps := 4000000) (disch := omega) only [Zq, evO, vbox, wr, Zeq, if_true, if_false, Nat.reduceEqDiff, Nat.reduceAdd, Nat.reduceLeDiff, Nat.reduceSub, and_self, and_true, true_and, reduceIte, reduceCtorEq, eq_self, implies_true, forall_const, false_implies, imp_self, decide_true, decide_false, fix_nil, fix_cons, g2, g2a, g2l, g2r, g5q, g5a, g5l, g5r, g5x, t2, t3, t4, t6, t8, t9, t10, g6q, g6x, g6a, g6l, g6r, ixj, es]
      exact ⟨hja, k6, upto_succ ha (by rw [agRow, c6']; rfl)⟩
    rw [c6] at es
    simp (maxSteps := 4000000) (disch := omega) only [Zq, evO, vbox, wr, Zeq, if_true, if_false, Nat.reduceEqDiff, Nat.reduceAdd, Nat.reduceLeDiff, Nat.reduceSub, and_self, and_true, true_and, reduceIte, reduceCtorEq, eq_self, implies_true, forall_const, false_implies, imp_self, decide_true, decide_false, fix_nil, fix_cons, g2, g2a, g2l, g2r, g5q, g5a, g5l, g5r, g5x, t2, t3, t4, t6, t8, t9, t10, g6q, g6x, g6a, g6l, g6r, lr]
    refine G_tame rfl ?_
    simp (maxSteps := 4000000) (disch := omega) only [Zq, evO, vbox, wr, Zeq, if_true, if_false, Nat.reduceEqDiff, Nat.reduceAdd, Nat.reduceLeDiff, Nat.reduceSub, and_self, and_true, true_and, reduceIte, reduceCtorEq, eq_self, implies_true, forall_const, false_implies, imp_self, decide_true, decide_false, fix_nil, fix_cons, g2, g2a, g2l, g2r, g5q, g5a, g5l, g5r, g5x, t2, t3, t4, t6, t8, t9, t10, g6q, g6x, g6a, g6l, g6r, ixj, es, slc_idx (r := rRoute) (sz := 2) rfl hr hja, e7]
    refine GO_call ((r_spec_l06Against (a := rt routes n) (b := rt routes j) ((rSlc rNeed).rdk hnn k06) ((rSlc rInt).rdk hbb k06) ((rSlc rNeed).rdk hwn k06) ((rSlc rInt).rdk hwb2 k06) r1 r2 q1 q2).mono ?_)
    rintro _ H7 ⟨k7, rfl⟩
    have n7 := k7.nxt
    by_cases d1 : agNo (rt routes n) (rt routes j) = true
    · simp (maxSteps := 4000000) (disch := omega) only [Zq, evO, vbox, wr, Zeq, if_true, if_false, Nat.reduceEqDiff, Nat.reduceAdd, Nat.reduceLeDiff, Nat.reduceSub, and_self, and_true, true_and, reduceIte, reduceCtorEq, eq_self, implies_true, forall_const, false_implies, imp_self, decide_true, decide_false, fix_nil, fix_cons, g2, g2a, g2l, g2r, g5q, g5a, g5l, g5r, g5x, t2, t3, t4, t6, t8, t9, t10, g6q, g6x, g6a, g6l, g6r, d1]
      exact ⟨hja, k6.trans k7, upto_succ ha (by rw [agRow, d1]; simp)⟩
    · have d1' : agNo (rt routes n) (rt routes j) = false := by simpa using d1
      rw [if_neg (by rw [allTo_bad hja (by rw [agRow, c6, d1']; rfl)]; simp)] at hv
      have L7 := L6.keep k7
      have g7q := L7.g
      have g7r := (k7.get (H.nxt + 2) (by omega)).trans g6r
      simp (maxSteps := 4000000) (disch := omega) only [Zq, evO, vbox, wr, Zeq, if_true, if_false, Nat.reduceEqDiff, Nat.reduceAdd, Nat.reduceLeDiff, Nat.reduceSub, and_self, and_true, true_and, reduceIte, reduceCtorEq, eq_self, implies_true, forall_const, false_implies, imp_self, decide_true, decide_false, fix_nil, fix_cons, g2, g2a, g2l, g2r, g5q, g5a, g5l, g5r, g5x, t2, t3, t4, t6, t8, t9, t10, g6q, g6x, g6a, g6l, g6r, g7q, g7r, d1']
      rw [hv]
      exact spec_fin (L := (pos, set, taken)) (k06.trans k7) (by omega) L7 rfl
  obtain rfl : j = routes.length := by omega
  rw [if_pos (allTo_iff.2 ha)] at hv
  have lb : ∀ H : Heap, vlen H vb = some (.int .i64 (rt routes n).2.length, H) := fun _ => slc_len hbb
  have ln : ∀ H : Heap, vlen H vn = some (.int .i64 (rt routes n).1.length, H) := fun _ => slc_len hnn
  simp (maxSteps := 4000000) (disch := omega) only [Zq, evO, vbox, wr, Zeq, if_true, if_false, Nat.reduceEqDiff, Nat.reduceAdd, Nat.reduceLeDiff, Nat.reduceSub, and_self, and_true, true_and, reduceIte, reduceCtorEq, eq_self, implies_true, forall_const, false_implies, imp_self, decide_true, decide_false, fix_nil, fix_cons, g2, g2a, g2l, g2r, g5q, g5a, g5l, g5r, g5x, t2, t3, t4, t6, t8, t9, t10, g6q, g6x, g6a, g6l, g6r, lr]
  refine G_forF [2, 3, 4, 6, 8, 9] ((rt routes n).2.length) (fun i T H7 => T 11 = .int .i64 (i : Int) ∧ H7 = H6 ∧ ∀ j, j < i → (!(taken.getD ((rt routes n).2.getD j 0).toNat false)) = true) 0 (Nat.zero_le _) ?_ ?_
  · simp (maxSteps := 4000000) (disch := omega) only [Zq, evO, vbox, wr, Zeq, if_true, if_false, Nat.reduceEqDiff, Nat.reduceAdd, Nat.reduceLeDiff, Nat.reduceSub, and_self, and_true, true_and, reduceIte, reduceCtorEq, eq_self, implies_true, forall_const, false_implies, imp_self, decide_true, decide_false, fix_nil, fix_cons, g2, g2a, g2l, g2r, g5q, g5a, g5l, g5r, g5x, t2, t3, t4, t6, t8, t9, t10, g6q, g6x, g6a, g6l, g6r]
    exact fun j hj => by omega
  rintro i T H7 hi hT ⟨t11, h7, hb⟩
  simp only [fix_nil, fix_cons, Zq, evO, vbox, wr, Zeq, if_true, if_false, Nat.reduceEqDiff, Nat.reduceAdd, Nat.reduceLeDiff, Nat.reduceSub, and_self, and_true, true_and, reduceIte, reduceCtorEq, eq_self, implies_true, forall_const, false_implies, imp_self, decide_true, decide_false, t2, t3, t4, t6, t8, t9, t10] at hT
  obtain ⟨t2, t3, t4, t6, t8, t9⟩ := hT
  subst h7
  by_cases hil : i < (rt routes n).2.length
  · have hbi := ints_of ((rSlc rInt).rdk hbb k06)
    have hlt := rtOk_bk (hrt n hnr) hil
    have hn2 : ((rt routes n).2.getD i 0).toNat < taken.length := by omega
    have cst : (rt routes n).2.getD i 0 = ((((rt routes n).2.getD i 0).toNat : Nat) : Int) := by omega
    have ixt : ∀ H0 : Heap, vidx H0 1 vt (.int .i64 ((rt routes n).2.getD i 0)) = some (adr vt ((rt routes n).2.getD i 0).toNat 1 0, H0) := fun H0 => by
      have := slc_idx (r := rBool) (H1 := H0) (sz := 1) (k := .i64) rfl ht hn2
      rwa [← cst] at this
    have et := bool_el ((rSlc rBool).rdk ht k06) hn2
    simp (maxSteps := 4000000) (disch := omega) only [Zq, evO, vbox, wr, Zeq, if_true, if_false, Nat.reduceEqDiff, Nat.reduceAdd, Nat.reduceLeDiff, Nat.reduceSub, and_self, and_true, true_and, reduceIte, reduceCtorEq, eq_self, implies_true, forall_const, false_implies, imp_self, decide_true, decide_false, fix_nil, fix_cons, g2, g2a, g2l, g2r, g5q, g5a, g5l, g5r, g5x, t2, t3, t4, t6, t8, t9, t10, g6q, g6x, g6a, g6l, g6r, t11, lb]
    refine G_calm rfl ?_
    by_cases d1 : taken.getD ((rt routes n).2.getD i 0).toNat false = true
    · rw [if_neg (by rw [freeR, allTo_bad (f := fun i => !(taken.getD ((rt routes n).2.getD i 0).toNat false)) hil (by show (!_) = false; rw [d1]; rfl)]; simp)] at hv
      rw [d1] at et
      simp (maxSteps := 4000000) (disch := omega) only [Zq, evO, vbox, wr, Zeq, if_true, if_false, Nat.reduceEqDiff, Nat.reduceAdd, Nat.reduceLeDiff, Nat.reduceSub, and_self, and_true, true_and, reduceIte, reduceCtorEq, eq_self, implies_true, forall_const, false_implies, imp_self, decide_true, decide_false, fix_nil, fix_cons, g2, g2a, g2l, g2r, g5q, g5a, g5l, g5r, g5x, t2, t3, t4, t6, t8, t9, t10, g6q, g6x, g6a, g6l, g6r, t11, lb, hbi.idx hil, hbi.ld hil, ixt, et]
      rw [hv]
      exact spec_fin (L := (pos, set, taken)) k06 (by omega) L6 rfl
    · have d1' : taken.getD ((rt routes n).2.getD i 0).toNat false = false := by simpa using d1
      rw [d1'] at et
      simp (maxSteps := 4000000) (disch := omega) only [Zq, evO, vbox, wr, Zeq, if_true, if_false, Nat.reduceEqDiff, Nat.reduceAdd, Nat.reduceLeDiff, Nat.reduceSub, and_self, and_true, true_and, reduceIte, reduceCtorEq, eq_self, implies_true, forall_const, false_implies, imp_self, decide_true, decide_false, fix_nil, fix_cons, g2, g2a, g2l, g2r, g5q, g5a, g5l, g5r, g5x, t2, t3, t4, t6, t8, t9, t10, g6q, g6x, g6a, g6l, g6r, t11, lb, hbi.idx hil, hbi.ld hil, ixt, et]
      exact ⟨hil, upto_succ (f := fun i => !(taken.getD ((rt routes n).2.getD i 0).toNat false)) hb (by show (!_) = true; rw [d1']; rfl)⟩
  obtain rfl : i = (rt routes n).2.length := by omega
  rw [if_pos (by rw [freeR, allTo_iff (f := fun i => !(taken.getD ((rt routes n).2.getD i 0).toNat false)) |>.2 hb])] at hv
  have hpt : ∀ i, i < (rt routes n).1.length → (nd (rt routes n).1 i).1.toNat < pos.length ∧ (nd (rt routes n).1 i).1 = (((nd (rt routes n).1 i).1.toNat : Nat) : Int) := fun i hi => by have := rtOk_nd (hrt n hnr) hi; omega
  simp (maxSteps := 4000000) (disch := omega) only [Zq, evO, vbox, wr, Zeq, if_true, if_false, Nat.reduceEqDiff, Nat.reduceAdd, Nat.reduceLeDiff, Nat.reduceSub, and_self, and_true, true_and, reduceIte, reduceCtorEq, eq_self, implies_true, forall_const, false_implies, imp_self, decide_true, decide_false, fix_nil, fix_cons, g2, g2a, g2l, g2r, g5q, g5a, g5l, g5r, g5x, t2, t3, t4, t6, t8, t9, t10, g6q, g6x, g6a, g6l, g6r, t11, lb]
  refine G_forF [2, 3, 4, 6, 8, 9] ((rt routes n).1.length) (fun i T H8 => T 12 = .int .i64 (i : Int) ∧ Keep H7 H8 ∧ ∀ a, a < i → stNo pos taken under (rt routes n).1 a = true) 0 (Nat.zero_le _) ?_ ?_
  · simp (maxSteps := 4000000) (disch := omega) only [Zq, evO, vbox, wr, Zeq, if_true, if_false, Nat.reduceEqDiff, Nat.reduceAdd, Nat.reduceLeDiff, Nat.reduceSub, and_self, and_true, true_and, reduceIte, reduceCtorEq, eq_self, implies_true, forall_const, false_implies, imp_self, decide_true, decide_false, fix_nil, fix_cons, g2, g2a, g2l, g2r, g5q, g5a, g5l, g5r, g5x, t2, t3, t4, t6, t8, t9, t10, g6q, g6x, g6a, g6l, g6r, t11]
    exact ⟨Keep.refl _, fun j hj => by omega⟩
  rintro i T H8 hi hT ⟨t12, k8, hst⟩
  simp only [fix_nil, fix_cons, Zq, evO, vbox, wr, Zeq, if_true, if_false, Nat.reduceEqDiff, Nat.reduceAdd, Nat.reduceLeDiff, Nat.reduceSub, and_self, and_true, true_and, reduceIte, reduceCtorEq, eq_self, implies_true, forall_const, false_implies, imp_self, decide_true, decide_false, t2, t3, t4, t6, t8, t9, t10, t11] at hT
  obtain ⟨t2, t3, t4, t6, t8, t9⟩ := hT
  have n8 := k8.nxt
  have L8 := L6.keep k8
  have k08 := k06.trans k8
  have g8q := L8.g
  have g8x := (k8.get H4.nxt (by omega)).trans g6x
  have g8a := (k8.get H.nxt (by omega)).trans g6a
  have g8l := (k8.get (H.nxt + 1) (by omega)).trans g6l
  have g8r := (k8.get (H.nxt + 2) (by omega)).trans g6r
  by_cases hil : i < (rt routes n).1.length
  · obtain ⟨e5, _, _⟩ := need_el ((rSlc rNeed).rdk hnn k08) hil
    simp (maxSteps := 4000000) (disch := omega) only [Zq, evO, vbox, wr, Zeq, if_true, if_false, Nat.reduceEqDiff, Nat.reduceAdd, Nat.reduceLeDiff, Nat.reduceSub, and_self, and_true, true_and, reduceIte, reduceCtorEq, eq_self, implies_true, forall_const, false_implies, imp_self, decide_true, decide_false, fix_nil, fix_cons, g2, g2a, g2l, g2r, g5q, g5a, g5l, g5r, g5x, t2, t3, t4, t6, t8, t9, t10, g6q, g6x, g6a, g6l, g6r, t11, t12, g8q, g8x, g8a, g8l, g8r, ln, slc_idx (r := rNeed) (sz := 2) rfl hnn hil, e5]
    generalize hG9 : (H8.push [.int .i64 0, .int .i64 0]).set H8.nxt [.int .i64 (nd (rt routes n).1 i).1, .int .i64 (nd (rt routes n).1 i).2] = H9
    have k9 : Keep H8 H9 := by rw [← hG9]; repeat' (first | exact Keep.refl _ | assumption | refine Keep.push' ?_ | refine Keep.set' ?_ ?_ | refine Keep.moved' ?_ ?_ | omega)
    have g9 : H9.get H8.nxt = some (.own [.int .i64 (nd (rt routes n).1 i).1, .int .i64 (nd (rt routes n).1 i).2]) := by rw [← hG9, Zbi, if_pos rfl]
    have n9 : H9.nxt = H8.nxt + 1 := by rw [← hG9, Zbh, Zbg]
    have L9 := L8.keep k9
    have k09 := k08.trans k9
    have g9q := L9.g
    have g9a := (k9.get H.nxt (by omega)).trans g8a
    have g9l := (k9.get (H.nxt + 1) (by omega)).trans g8l
    have g9r := (k9.get (H.nxt + 2) (by omega)).trans g8r
    obtain ⟨p1, p2⟩ := hpt i hil
    have ixp : ∀ H0 : Heap, vidx H0 1 vp (.int .i64 (nd (rt routes n).1 i).1) = some (adr vp (nd (rt routes n).1 i).1.toNat 1 0, H0) := fun H0 => by
      have := slc_idx (r := rInt) (H1 := H0) (sz := 1) (k := .i64) rfl hp p1
      rwa [← p2] at this
    have ldp := IntsK.ld ((ints_of hp).keep k09) p1
    have pu : (nd (rt routes n).1 i).1.toNat < under.length := by omega
    have ixu : ∀ H0 : Heap, vidx H0 1 vu (.int .i64 (nd (rt routes n).1 i).1) = some (adr vu (nd (rt routes n).1 i).1.toNat 1 0, H0) := fun H0 => by
      have := slc_idx (r := rInt) (H1 := H0) (sz := 1) (k := .i64) rfl hu pu
      rwa [← p2] at this
    have ldu := IntsK.ld ((ints_of hu).keep k09) pu
    have hub := hpu _ pu
    have tb : (under.getD (nd (rt routes n).1 i).1.toNat 0).toNat < taken.length := by omega
    have cst : under.getD (nd (rt routes n).1 i).1.toNat 0 = (((under.getD (nd (rt routes n).1 i).1.toNat 0).toNat : Nat) : Int) := by omega
    have ixt : ∀ H0 : Heap, vidx H0 1 vt (.int .i64 (under.getD (nd (rt routes n).1 i).1.toNat 0)) = some (adr vt (under.getD (nd (rt routes n).1 i).1.toNat 0).toNat 1 0, H0) := fun H0 => by
      have := slc_idx (r := rBool) (H1 := H0) (sz := 1) (k := .i64) rfl ht tb
      rwa [← cst] at this
    have et := bool_el ((rSlc rBool).rdk ht k09) tb
    refine G_calm rfl ?_
    by_cases d1 : pos.getD (nd (rt routes n).1 i).1.toNat 0 = (nd (rt routes n).1 i).2
    · simp (maxSteps := 4000000) (disch := omega) only [Zq, evO, vbox, wr, Zeq, if_true, if_false, Nat.reduceEqDiff, Nat.reduceAdd, Nat.reduceLeDiff, Nat.reduceSub, and_self, and_true, true_and, reduceIte, reduceCtorEq, eq_self, implies_true, forall_const, false_implies, imp_self, decide_true, decide_false, fix_nil, fix_cons, g2, g2a, g2l, g2r, g5q, g5a, g5l, g5r, g5x, t2, t3, t4, t6, t8, t9, t10, g6q, g6x, g6a, g6l, g6r, t11, t12, g8q, g8x, g8a, g8l, g8r, g9, g9q, g9a, g9l, g9r, ixp, ldp, Zfl d1]
      exact ⟨hil, k8.trans k9, upto_succ hst (by rw [stNo, decide_eq_true d1]; rfl)⟩
    · by_cases d2 : taken.getD (under.getD (nd (rt routes n).1 i).1.toNat 0).toNat false = true
      · rw [d2] at et
        rw [if_neg (by rw [allTo_bad hil (by rw [stNo, decide_eq_false d1, d2]; rfl)]; simp)] at hv
        simp (maxSteps := 4000000) (disch := omega) only [Zq, evO, vbox, wr, Zeq, if_true, if_false, Nat.reduceEqDiff, Nat.reduceAdd, Nat.reduceLeDiff, Nat.reduceSub, and_self, and_true, true_and, reduceIte, reduceCtorEq, eq_self, implies_true, forall_const, false_implies, imp_self, decide_true, decide_false, fix_nil, fix_cons, g2, g2a, g2l, g2r, g5q, g5a, g5l, g5r, g5x, t2, t3, t4, t6, t8, t9, t10, g6q, g6x, g6a, g6l, g6r, t11, t12, g8q, g8x, g8a, g8l, g8r, g9, g9q, g9a, g9l, g9r, ixp, ldp, Zfm d1, ixu, ldu, ixt, et]
        rw [hv]
        exact spec_fin (L := (pos, set, taken)) k09 (by omega) L9 rfl
      · have d2' : taken.getD (under.getD (nd (rt routes n).1 i).1.toNat 0).toNat false = false := by simpa using d2
        rw [d2'] at et
        simp (maxSteps := 4000000) (disch := omega) only [Zq, evO, vbox, wr, Zeq, if_true, if_false, Nat.reduceEqDiff, Nat.reduceAdd, Nat.reduceLeDiff, Nat.reduceSub, and_self, and_true, true_and, reduceIte, reduceCtorEq, eq_self, implies_true, forall_const, false_implies, imp_self, decide_true, decide_false, fix_nil, fix_cons, g2, g2a, g2l, g2r, g5q, g5a, g5l, g5r, g5x, t2, t3, t4, t6, t8, t9, t10, g6q, g6x, g6a, g6l, g6r, t11, t12, g8q, g8x, g8a, g8l, g8r, g9, g9q, g9a, g9l, g9r, ixp, ldp, Zfm d1, ixu, ldu, ixt, et]
        exact ⟨hil, k8.trans k9, upto_succ hst (by rw [stNo, d2']; simp)⟩
  obtain rfl : i = (rt routes n).1.length := by omega
  rw [if_pos (allTo_iff.2 hst)] at hv
  simp (maxSteps := 4000000) (disch := omega) only [Zq, evO, vbox, wr, Zeq, if_true, if_false, Nat.reduceEqDiff, Nat.reduceAdd, Nat.reduceLeDiff, Nat.reduceSub, and_self, and_true, true_and, reduceIte, reduceCtorEq, eq_self, implies_true, forall_const, false_implies, imp_self, decide_true, decide_false, fix_nil, fix_cons, g2, g2a, g2l, g2r, g5q, g5a, g5l, g5r, g5x, t2, t3, t4, t6, t8, t9, t10, g6q, g6x, g6a, g6l, g6r, t11, t12, g8q, g8x, g8a, g8l, g8r, ln]
  refine G_forF [2, 6, 8, 9] ((rt routes n).1.length) (fun i T H9 => T 14 = .int .i64 (i : Int) ∧ KpP (fun a => H0.nxt ≤ a ∧ a ≠ H4.nxt) H8 H9 ∧ Lk (fun a => H0.nxt ≤ a ∧ a ≠ H4.nxt) H9 H1.nxt v1 w1 u1 F0 F1 F2 (setN pos ((rt routes n).1.take i)) set taken) 0 (Nat.zero_le _) ?_ ?_
  · simp (maxSteps := 4000000) (disch := omega) only [Zq, evO, vbox, wr, Zeq, if_true, if_false, Nat.reduceEqDiff, Nat.reduceAdd, Nat.reduceLeDiff, Nat.reduceSub, and_self, and_true, true_and, reduceIte, reduceCtorEq, eq_self, implies_true, forall_const, false_implies, imp_self, decide_true, decide_false, fix_nil, fix_cons, g2, g2a, g2l, g2r, g5q, g5a, g5l, g5r, g5x, t2, t3, t4, t6, t8, t9, t10, g6q, g6x, g6a, g6l, g6r, t11, t12, g8q, g8x, g8a, g8l, g8r]
    exact ⟨KpP.refl _ _, ((L4P.keep kx).keep k6).keep k8⟩
  rintro i T H9 hi hT ⟨t14, k9, L9⟩
  simp only [fix_nil, fix_cons, Zq, evO, vbox, wr, Zeq, if_true, if_false, Nat.reduceEqDiff, Nat.reduceAdd, Nat.reduceLeDiff, Nat.reduceSub, and_self, and_true, true_and, reduceIte, reduceCtorEq, eq_self, implies_true, forall_const, false_implies, imp_self, decide_true, decide_false, t2, t3, t4, t6, t8, t9, t10, t11, t12] at hT
  obtain ⟨t2, t6, t8, t9⟩ := hT
  have n9 := k9.nxt
  have k09 : Keep H H9 := k9.keep k08 (fun a (ha : H0.nxt ≤ a ∧ a ≠ H4.nxt) => by omega)
  have g9q := L9.g
  have g9x := (k9.get H4.nxt (by omega) (fun (hh : H0.nxt ≤ H4.nxt ∧ H4.nxt ≠ H4.nxt) => hh.2 rfl)).trans g8x
  have g9r := (k9.get (H.nxt + 2) (by omega) (fun (hh : H0.nxt ≤ H.nxt + 2 ∧ H.nxt + 2 ≠ H4.nxt) => by omega)).trans g8r
  by_cases hil : i < (rt routes n).1.length
  · obtain ⟨_, e5, e6⟩ := need_el ((rSlc rNeed).rdk hnn k09) hil
    have ixn := fun H0 : Heap => slc_idx (r := rNeed) (H1 := H0) (sz := 2) (i := i) (k := .i64) rfl hnn hil
    have fxn := fun (H0 : Heap) (o off : Nat) => slc_fad (r := rNeed) (H1 := H0) (sz := 2) (o := o) (off := off) rfl hnn hil
    obtain ⟨p1, p2⟩ := hpt i hil
    have p1' : (nd (rt routes n).1 i).1.toNat < (setN pos ((rt routes n).1.take i)).length := by rw [setN_len]; exact p1
    have ixp : ∀ H0 : Heap, vidx H0 1 v1 (.int .i64 (nd (rt routes n).1 i).1) = some (adr v1 (nd (rt routes n).1 i).1.toNat 1 0, H0) := fun H0 => by
      have := slc_idx (r := rInt) (H1 := H0) (sz := 1) (k := .i64) rfl ((rSlc rInt).ownrd L9.o0) p1'
      rwa [← p2] at this
    obtain ⟨H10, e8, L10, q10, n10, _⟩ := L9.st0 p1' (nd (rt routes n).1 i).2
    rw [← setN_succ hil] at L10
    simp (maxSteps := 4000000) (disch := omega) only [Zq, evO, vbox, wr, Zeq, if_true, if_false, Nat.reduceEqDiff, Nat.reduceAdd, Nat.reduceLeDiff, Nat.reduceSub, and_self, and_true, true_and, reduceIte, reduceCtorEq, eq_self, implies_true, forall_const, false_implies, imp_self, decide_true, decide_false, fix_nil, fix_cons, g2, g2a, g2l, g2r, g5q, g5a, g5l, g5r, g5x, t2, t3, t4, t6, t8, t9, t10, g6q, g6x, g6a, g6l, g6r, t11, t12, g8q, g8x, g8a, g8l, g8r, t14, g9q, g9x, g9r, ln]
    refine G_tame rfl ?_
    simp (maxSteps := 4000000) (disch := omega) only [Zq, evO, vbox, wr, Zeq, if_true, if_false, Nat.reduceEqDiff, Nat.reduceAdd, Nat.reduceLeDiff, Nat.reduceSub, and_self, and_true, true_and, reduceIte, reduceCtorEq, eq_self, implies_true, forall_const, false_implies, imp_self, decide_true, decide_false, fix_nil, fix_cons, g2, g2a, g2l, g2r, g5q, g5a, g5l, g5r, g5x, t2, t3, t4, t6, t8, t9, t10, g6q, g6x, g6a, g6l, g6r, t11, t12, g8q, g8x, g8a, g8l, g8r, t14, g9q, g9x, g9r, ixn, fxn, e5, e6, ixp, e8]
    exact ⟨hil, k9.trans q10, L10⟩
  obtain rfl : i = (rt routes n).1.length := by omega
  rw [List.take_length] at L9
  obtain ⟨H10, e8, L10, q10, n10, _⟩ := L9.st1 hns true
  have g10q := L10.g
  have g10r := (q10.get (H.nxt + 2) (by omega) (fun (hh : H0.nxt ≤ H.nxt + 2 ∧ H.nxt + 2 ≠ H4.nxt) => by omega)).trans g9r
  have k010 : Keep H H10 := q10.keep k09 (fun a (ha : H0.nxt ≤ a ∧ a ≠ H4.nxt) => by omega)
  simp (maxSteps := 4000000) (disch := omega) only [Zq, evO, vbox, wr, Zeq, if_true, if_false, Nat.reduceEqDiff, Nat.reduceAdd, Nat.reduceLeDiff, Nat.reduceSub, and_self, and_true, true_and, reduceIte, reduceCtorEq, eq_self, implies_true, forall_const, false_implies, imp_self, decide_true, decide_false, fix_nil, fix_cons, g2, g2a, g2l, g2r, g5q, g5a, g5l, g5r, g5x, t2, t3, t4, t6, t8, t9, t10, g6q, g6x, g6a, g6l, g6r, t11, t12, g8q, g8x, g8a, g8l, g8r, t14, g9q, g9x, g9r, g10q, g10r, ln, ixq, e8]
  rw [hv]
  exact spec_fin (L := (setN pos (rt routes n).1, set.set n true, taken)) k010 (by omega) ⟨L10.hq.1, L10.lt, L10.g, L10.o0, L10.o1, L10.o2, L10.nd, fun a ha => ⟨(L10.pf a ha).1.1, (L10.pf a ha).2⟩⟩ rfl
end Go.Proofs.Ythjphddodooahaa.AX
