/- Vacate of the reference. No condition beyond each law's own; of the program: the functions' forms. -/
import Derived.Test.YthjphddodooahaaPlg
import Derived.Test.YthjphddodooahaaPle
namespace Go.Proofs.Ythjphddodooahaa.AX
open Go
set_option maxRecDepth 10000
set_option maxHeartbeats 4000000
set_option linter.unusedSimpArgs false
set_option linter.unusedVariables false
/-- What ends an op of the reference: the copy, stored and told. -/
theorem spec_fin {H H0 Hx : Heap} {q : Nat} {v w u : Value} {F0 F1 F2 : List Nat} {L R : Lo} {c : Int} (hk : Keep H Hx) (h0 : H.nxt + 3 ≤ H0.nxt) (hL : Lk (fun a => H0.nxt ≤ a) Hx q v w u F0 F1 F2 L.1 L.2.1 L.2.2) (e : L = R) : Keep H (Hx.set (H.nxt + 2) [v, w, u]) ∧ ∃ cs F, Value.tuple #[.agg #[v, w, u], .int .i64 c] = .tuple #[rLocking.val cs, .int .i64 c] ∧ rLocking.own (Hx.set (H.nxt + 2) [v, w, u]) cs R F ∧ Fresh H (Hx.set (H.nxt + 2) [v, w, u]) F := by
  subst e
  have lt : ∀ a ∈ F0 ++ (F1 ++ F2), H0.nxt ≤ a ∧ a < Hx.nxt := fun a ha => ⟨(hL.pf a ha).1, rLocking.ownlt (locking_own' hL.o0 hL.o1 hL.o2) a ha⟩
  refine ⟨hk.set' (by omega), [v, w, u], F0 ++ (F1 ++ F2), rfl, ?_, hL.nd, fun a ha => ?_⟩
  · refine rLocking.ownk (a := L) (locking_own' hL.o0 hL.o1 hL.o2) (by rw [Zbh]; omega) (fun a ha => ?_)
    have := lt a ha
    rw [Zbi, if_neg (by omega)]
  · have := lt a ha
    rw [Zbh]
    omega
theorem opR_bad {opf : List Int → Int → List Rt → Lo → Int → Lo × Int} {p : List Int × Int × List Rt} {L : Lo} {k : Int} (h : lkOk p.1 p.2.1 p.2.2 L.1 L.2.1 L.2.2 = false) : opR opf p L k = (L, 1) := by rw [opR, if_neg (by rw [h]; simp)]
theorem opR_ok {opf : List Int → Int → List Rt → Lo → Int → Lo × Int} {p : List Int × Int × List Rt} {L : Lo} {k : Int} (h : lkOk p.1 p.2.1 p.2.2 L.1 L.2.1 L.2.2 = true) : opR opf p L k = opf p.1 p.2.1 p.2.2 L k := by rw [opR, if_pos h]
theorem r_spec_Vacate {H : Heap} {vu vr vp vs vt : Value} {under : List Int} {b : Int} {routes : List Rt} {pos : List Int} {set taken : List Bool} {k : Int} (hu : (rSlc rInt).rd H [vu] under) (hr : (rSlc rRoute).rd H [vr] routes) (hp : (rSlc rInt).rd H [vp] pos) (hs : (rSlc rBool).rd H [vs] set) (ht : (rSlc rBool).rd H [vt] taken) (tt : rPlant.tot (under, b, routes) ≤ 1048576) (tl : rLocking.tot (pos, set, taken) ≤ 1048576) :
    Run Try.prog 26 [.agg #[vu, .int .i64 b, vr], .agg #[vp, vs, vt], .int .i64 k] H fun r H' => Keep H H' ∧ ∃ cs F, r = .tuple #[rLocking.val cs, .int .i64 (opR vaR (under, b, routes) (pos, set, taken) k).2] ∧ rLocking.own H' cs (opR vaR (under, b, routes) (pos, set, taken) k).1 F ∧ Fresh H H' F := by
  refine Run.intro c26 rfl ?_
  simp (maxSteps := 4000000) (disch := omega) only [Zq, evO, vbox, wr, Zeq, if_true, if_false, Nat.reduceEqDiff, Nat.reduceAdd, Nat.reduceLeDiff, Nat.reduceSub, and_self, and_true, true_and, reduceIte, reduceCtorEq, eq_self, implies_true, forall_const, false_implies, imp_self, decide_true, decide_false, x26]
  generalize hG0 : ((H.push [vu, .int .i64 b, vr]).push [vp, vs, vt]).push [.slice none 0 0, .slice none 0 0, .slice none 0 0] = H0
  have k0 : Keep H H0 := by rw [← hG0]; repeat' (first | exact Keep.refl _ | assumption | refine Keep.push' ?_ | refine Keep.set' ?_ ?_ | refine Keep.moved' ?_ ?_ | omega)
  have g0 : H0.get H.nxt = some (.own [vu, .int .i64 b, vr]) := by rw [← hG0]; simp (maxSteps := 4000000) (disch := omega) only [Zq, evO, vbox, wr, Zeq, if_true, if_false, Nat.reduceEqDiff, Nat.reduceAdd, Nat.reduceLeDiff, Nat.reduceSub, and_self, and_true, true_and, reduceIte, reduceCtorEq, eq_self, implies_true, forall_const, false_implies, imp_self, decide_true, decide_false]
  have g0l : H0.get (H.nxt + 1) = some (.own [vp, vs, vt]) := by rw [← hG0]; simp (maxSteps := 4000000) (disch := omega) only [Zq, evO, vbox, wr, Zeq, if_true, if_false, Nat.reduceEqDiff, Nat.reduceAdd, Nat.reduceLeDiff, Nat.reduceSub, and_self, and_true, true_and, reduceIte, reduceCtorEq, eq_self, implies_true, forall_const, false_implies, imp_self, decide_true, decide_false]
  have g0r : H0.get (H.nxt + 2) = some (.own [.slice none 0 0, .slice none 0 0, .slice none 0 0]) := by rw [← hG0]; simp (maxSteps := 4000000) (disch := omega) only [Zq, evO, vbox, wr, Zeq, if_true, if_false, Nat.reduceEqDiff, Nat.reduceAdd, Nat.reduceLeDiff, Nat.reduceSub, and_self, and_true, true_and, reduceIte, reduceCtorEq, eq_self, implies_true, forall_const, false_implies, imp_self, decide_true, decide_false]
  have n0 : H0.nxt = H.nxt + 3 := by rw [← hG0]; simp only [Zbg]
  clear hG0
  refine GO_call ((r_spec_l06Copy ((rSlc rInt).rdk hp k0) ((rSlc rBool).rdk hs k0) ((rSlc rBool).rdk ht k0) tl).mono ?_)
  rintro _ H1 ⟨k1, cs, F, rfl, o1, fr⟩
  obtain ⟨v1, w1, u1, rfl, _⟩ := locking_rd (rLocking.ownrd o1)
  have n1 := k1.nxt
  have g1 := (k1.get H.nxt (by omega)).trans g0
  have g1l := (k1.get (H.nxt + 1) (by omega)).trans g0l
  have g1r := (k1.get (H.nxt + 2) (by omega)).trans g0r
  simp only [locking_val]
  simp (maxSteps := 4000000) (disch := omega) only [Zq, evO, vbox, wr, Zeq, if_true, if_false, Nat.reduceEqDiff, Nat.reduceAdd, Nat.reduceLeDiff, Nat.reduceSub, and_self, and_true, true_and, reduceIte, reduceCtorEq, eq_self, implies_true, forall_const, false_implies, imp_self, decide_true, decide_false, fix_nil, fix_cons, g0, g0l, g0r, g1, g1l, g1r]
  generalize hG2 : (H1.push [.slice none 0 0, .slice none 0 0, .slice none 0 0]).set H1.nxt [v1, w1, u1] = H2
  have k2 : Keep H1 H2 := by rw [← hG2]; repeat' (first | exact Keep.refl _ | assumption | refine Keep.push' ?_ | refine Keep.set' ?_ ?_ | refine Keep.moved' ?_ ?_ | omega)
  have g2 : H2.get H1.nxt = some (.own [v1, w1, u1]) := by rw [← hG2, Zbi, if_pos rfl]
  have n2 : H2.nxt = H1.nxt + 1 := by rw [← hG2, Zbh, Zbg]
  obtain ⟨F0, F1, F2, L2⟩ := own_lk o1 fr n1 k2 (by omega) g2
  have g2a := (k2.get H.nxt (by omega)).trans g1
  have g2l := (k2.get (H.nxt + 1) (by omega)).trans g1l
  have g2r := (k2.get (H.nxt + 2) (by omega)).trans g1r
  have k02 : Keep H H2 := k0.trans (k1.trans k2)
  clear hG2 fr o1 g0 g0l g0r g1 g1l g1r
  refine GO_call ((r_spec_LockingOk ((rSlc rInt).rdk hu k02) ((rSlc rRoute).rdk hr k02) ((rSlc rInt).rdk hp k02) ((rSlc rBool).rdk hs k02) ((rSlc rBool).rdk ht k02) tt tl).mono ?_)
  rintro _ H3 ⟨k3, rfl⟩
  have n3 := k3.nxt
  have L3 := L2.keep k3
  have g3a := (k3.get H.nxt (by omega)).trans g2a
  have g3l := (k3.get (H.nxt + 1) (by omega)).trans g2l
  have g3r := (k3.get (H.nxt + 2) (by omega)).trans g2r
  have k03 := k02.trans k3
  have g3q := L3.g
  by_cases c0 : lkOk under b routes pos set taken = true
  rotate_left
  · have c0' : lkOk under b routes pos set taken = false := by simpa using c0
    have e := opR_bad (opf := vaR) (p := (under, b, routes)) (L := (pos, set, taken)) (k := k) c0'
    simp (maxSteps := 4000000) (disch := omega) only [Zq, evO, vbox, wr, Zeq, if_true, if_false, Nat.reduceEqDiff, Nat.reduceAdd, Nat.reduceLeDiff, Nat.reduceSub, and_self, and_true, true_and, reduceIte, reduceCtorEq, eq_self, implies_true, forall_const, false_implies, imp_self, decide_true, decide_false, fix_nil, fix_cons, g2, g2a, g2l, g2r, g3a, g3l, g3r, g3q, c0']
    rw [e]
    exact spec_fin (L := (pos, set, taken)) k03 (by omega) L3 rfl
  have e := opR_ok (opf := vaR) (p := (under, b, routes)) (L := (pos, set, taken)) (k := k) c0
  rw [e]
  obtain ⟨hpl, l1, l2, l3⟩ := lkOk_get c0
  obtain ⟨b1, b2, _, _, _, _⟩ := plOk_get hpl
  have hwb : IntKind.i64.wrap (b - 1) = b - 1 := wrap64 (by omega) (by omega)
  simp (maxSteps := 4000000) (disch := omega) only [Zq, evO, vbox, wr, Zeq, if_true, if_false, Nat.reduceEqDiff, Nat.reduceAdd, Nat.reduceLeDiff, Nat.reduceSub, and_self, and_true, true_and, reduceIte, reduceCtorEq, eq_self, implies_true, forall_const, false_implies, imp_self, decide_true, decide_false, fix_nil, fix_cons, g2, g2a, g2l, g2r, g3a, g3l, g3r, g3q, c0, hwb]
  refine GO_call ((r_spec_l01In k 0 (b - 1) _).mono ?_)
  rintro _ H4 ⟨k4, rfl⟩
  have n4 := k4.nxt
  have g4a := (k4.get (H.nxt) (by omega)).trans g3a
  have g4l := (k4.get (H.nxt + 1) (by omega)).trans g3l
  have g4r := (k4.get (H.nxt + 2) (by omega)).trans g3r
  have L4 := L3.keep k4
  have k04 := k03.trans k4
  have g4q := L4.g
  by_cases c1 : inR 0 (b - 1) k = true
  rotate_left
  · have c1' : inR 0 (b - 1) k = false := by simpa using c1
    simp (maxSteps := 4000000) (disch := omega) only [Zq, evO, vbox, wr, Zeq, if_true, if_false, Nat.reduceEqDiff, Nat.reduceAdd, Nat.reduceLeDiff, Nat.reduceSub, and_self, and_true, true_and, reduceIte, reduceCtorEq, eq_self, implies_true, forall_const, false_implies, imp_self, decide_true, decide_false, fix_nil, fix_cons, g2, g2a, g2l, g2r, g3a, g3l, g3r, g3q, g4a, g4l, g4r, g4q, c1']
    have hv : vaR under b routes (pos, set, taken) k = ((pos, set, taken), 1) := by rw [vaR, if_neg c1]
    rw [hv]
    exact spec_fin (L := (pos, set, taken)) k04 (by omega) L4 rfl
  obtain ⟨n, rfl, hn⟩ := int_nat c1
  have hnt : n < taken.length := by omega
  have eb := bool_el ((rSlc rBool).rdk ht k04) hnt
  have ixb := fun H0 : Heap => slc_idx (r := rBool) (H1 := H0) (sz := 1) (i := n) (k := .i64) rfl ht hnt
  have ixq := fun H0 : Heap => slc_idx (r := rBool) (H1 := H0) (sz := 1) (i := n) (k := .i64) rfl ((rSlc rBool).ownrd L4.o2) hnt
  have hv : vaR under b routes (pos, set, taken) n = (if taken.getD n false = true then ((pos, set, taken.set n false), 0) else ((pos, set, taken), 6)) := by rw [vaR, if_pos c1, Int.toNat_natCast]
  by_cases c2 : taken.getD n false = true
  · rw [if_pos c2] at hv
    rw [c2] at eb
    obtain ⟨H5, e5, L5, q5, n5, _⟩ := L4.st2 hnt false
    have g5q := L5.g
    have g5r := (q5.get (H.nxt + 2) (by omega) (fun hh => by have : H0.nxt ≤ H.nxt + 2 := hh; omega)).trans g4r
    have k05 : Keep H H5 := q5.keep k04 (fun a (ha : H0.nxt ≤ a) => by omega)
    simp (maxSteps := 4000000) (disch := omega) only [Zq, evO, vbox, wr, Zeq, if_true, if_false, Nat.reduceEqDiff, Nat.reduceAdd, Nat.reduceLeDiff, Nat.reduceSub, and_self, and_true, true_and, reduceIte, reduceCtorEq, eq_self, implies_true, forall_const, false_implies, imp_self, decide_true, decide_false, fix_nil, fix_cons, g2, g2a, g2l, g2r, g3a, g3l, g3r, g3q, g4a, g4l, g4r, g4q, g5q, g5r, c1, ixb, eb, ixq, e5]
    rw [hv]
    exact spec_fin (L := (pos, set, taken.set n false)) k05 (by omega) L5 rfl
  · have c2' : taken.getD n false = false := by simpa using c2
    rw [if_neg c2] at hv
    rw [c2'] at eb
    simp (maxSteps := 4000000) (disch := omega) only [Zq, evO, vbox, wr, Zeq, if_true, if_false, Nat.reduceEqDiff, Nat.reduceAdd, Nat.reduceLeDiff, Nat.reduceSub, and_self, and_true, true_and, reduceIte, reduceCtorEq, eq_self, implies_true, forall_const, false_implies, imp_self, decide_true, decide_false, fix_nil, fix_cons, g2, g2a, g2l, g2r, g3a, g3l, g3r, g3q, g4a, g4l, g4r, g4q, c1, ixb, eb]
    rw [hv]
    exact spec_fin (L := (pos, set, taken)) k04 (by omega) L4 rfl
end Go.Proofs.Ythjphddodooahaa.AX
