/- Plants: when they are right. No condition beyond each law's own; of the program: the functions' forms. -/
import Derived.Test.YthjphddodooahaaPla
namespace Go.Proofs.Ythjphddodooahaa.AX
open Go
set_option maxRecDepth 10000
set_option maxHeartbeats 4000000
set_option linter.unusedSimpArgs false
set_option linter.unusedVariables false
section
variable {H : Heap} {vu vr vn vb : Value} {under : List Int} {b : Int} {r : Rt}
theorem r_spec_l06Route (hu : (rSlc rInt).rd H [vu] under) (hn : (rSlc rNeed).rd H [vn] r.1) (hb : (rSlc rInt).rd H [vb] r.2) (ul : under.length ≤ 1048576) (nl : r.1.length ≤ 1048576) (bl : r.2.length ≤ 1048576) (b1 : 1 ≤ b) (b2 : b ≤ 24) : Run Try.prog 84 [.agg #[vu, .int .i64 b, vr], .agg #[vn, vb]] H fun x H' => Keep H H' ∧ x = .bool (rtOk under.length b r) := by
  have lu : ∀ H : Heap, vlen H vu = some (.int .i64 under.length, H) := fun _ => slc_len hu
  have ln : ∀ H : Heap, vlen H vn = some (.int .i64 r.1.length, H) := fun _ => slc_len hn
  have lb : ∀ H : Heap, vlen H vb = some (.int .i64 r.2.length, H) := fun _ => slc_len hb
  have hwu : IntKind.i64.wrap ((under.length : Int) - 1) = (under.length : Int) - 1 := wrap64 (by omega) (by omega)
  have hwb : IntKind.i64.wrap (b - 1) = b - 1 := wrap64 (by omega) (by omega)
  have bad1 : ∀ i, i < r.1.length → ndOk under.length r.1 i = false → Value.bool false = .bool (rtOk under.length b r) := fun i hi h => by rw [rtOk, allTo_bad hi h]; rfl
  have bad2 : ∀ i, i < r.2.length → bkOk b r.2 i = false → Value.bool false = .bool (rtOk under.length b r) := fun i hi h => by rw [rtOk, allTo_bad hi h]; simp
  refine Run.intro c84 rfl ?_
  simp (maxSteps := 4000000) (disch := omega) only [Zq, evO, vbox, wr, Zeq, if_true, if_false, Nat.reduceEqDiff, Nat.reduceAdd, Nat.reduceLeDiff, Nat.reduceSub, and_self, and_true, true_and, reduceIte, reduceCtorEq, eq_self, implies_true, forall_const, false_implies, imp_self, decide_true, decide_false, x84]
  generalize hG0 : (H.push [vu, .int .i64 b, vr]).push [vn, vb] = H0
  have k0 : Keep H H0 := by rw [← hG0]; repeat' (first | exact Keep.refl _ | assumption | refine Keep.push' ?_ | refine Keep.set' ?_ ?_ | refine Keep.moved' ?_ ?_ | omega)
  have g0 : H0.get H.nxt = some (.own [vu, .int .i64 b, vr]) := by rw [← hG0]; simp (maxSteps := 4000000) (disch := omega) only [Zq, evO, vbox, wr, Zeq, if_true, if_false, Nat.reduceEqDiff, Nat.reduceAdd, Nat.reduceLeDiff, Nat.reduceSub, and_self, and_true, true_and, reduceIte, reduceCtorEq, eq_self, implies_true, forall_const, false_implies, imp_self, decide_true, decide_false]
  have g0r : H0.get (H.nxt + 1) = some (.own [vn, vb]) := by rw [← hG0]; simp (maxSteps := 4000000) (disch := omega) only [Zq, evO, vbox, wr, Zeq, if_true, if_false, Nat.reduceEqDiff, Nat.reduceAdd, Nat.reduceLeDiff, Nat.reduceSub, and_self, and_true, true_and, reduceIte, reduceCtorEq, eq_self, implies_true, forall_const, false_implies, imp_self, decide_true, decide_false]
  have n0 : H0.nxt = H.nxt + 2 := by rw [← hG0]; simp only [Zbg]
  clear hG0
  refine G_forF [2, 3] (r.1.length) (fun i T H1 => T 5 = .int .i64 (i : Int) ∧ Keep H0 H1 ∧ ∀ j, j < i → ndOk under.length r.1 j = true) 0 (Nat.zero_le _) ?_ ?_
  · simp (maxSteps := 4000000) (disch := omega) only [Zq, evO, vbox, wr, Zeq, if_true, if_false, Nat.reduceEqDiff, Nat.reduceAdd, Nat.reduceLeDiff, Nat.reduceSub, and_self, and_true, true_and, reduceIte, reduceCtorEq, eq_self, implies_true, forall_const, false_implies, imp_self, decide_true, decide_false, fix_nil, fix_cons, g0, g0r]
    exact ⟨Keep.refl _, fun j hj => by omega⟩
  rintro i T H1 hi hT ⟨t5, k1, ha⟩
  simp only [fix_nil, fix_cons, Zq, evO, vbox, wr, Zeq, if_true, if_false, Nat.reduceEqDiff, Nat.reduceAdd, Nat.reduceLeDiff, Nat.reduceSub, and_self, and_true, true_and, reduceIte, reduceCtorEq, eq_self, implies_true, forall_const, false_implies, imp_self, decide_true, decide_false] at hT
  obtain ⟨t2, t3⟩ := hT
  have n1 := k1.nxt
  have g1 := (k1.get H.nxt (by omega)).trans g0
  have g1r := (k1.get (H.nxt + 1) (by omega)).trans g0r
  by_cases hin : i < r.1.length
  · obtain ⟨e3, e4, e5⟩ := need_el ((rSlc rNeed).rdk hn (k0.trans k1)) hin
    simp (maxSteps := 4000000) (disch := omega) only [Zq, evO, vbox, wr, Zeq, if_true, if_false, Nat.reduceEqDiff, Nat.reduceAdd, Nat.reduceLeDiff, Nat.reduceSub, and_self, and_true, true_and, reduceIte, reduceCtorEq, eq_self, implies_true, forall_const, false_implies, imp_self, decide_true, decide_false, fix_nil, fix_cons, g0, g0r, t2, t3, t5, g1, g1r, ln, slc_idx (r := rNeed) (sz := 2) rfl hn hin, e3]
    generalize hG2 : (H1.push [.int .i64 0, .int .i64 0]).set H1.nxt [.int .i64 (nd r.1 i).1, .int .i64 (nd r.1 i).2] = H2
    have k2 : Keep H1 H2 := by rw [← hG2]; repeat' (first | exact Keep.refl _ | assumption | refine Keep.push' ?_ | refine Keep.set' ?_ ?_ | refine Keep.moved' ?_ ?_ | omega)
    have g2 : H2.get H1.nxt = some (.own [.int .i64 (nd r.1 i).1, .int .i64 (nd r.1 i).2]) := by rw [← hG2, Zbi, if_pos rfl]
    have n2 : H2.nxt = H1.nxt + 1 := by rw [← hG2, Zbh, Zbg]
    have g2a := (k2.get H.nxt (by omega)).trans g1
    have g2r := (k2.get (H.nxt + 1) (by omega)).trans g1r
    refine G_tame rfl ?_
    simp (maxSteps := 4000000) (disch := omega) only [Zq, evO, vbox, wr, Zeq, if_true, if_false, Nat.reduceEqDiff, Nat.reduceAdd, Nat.reduceLeDiff, Nat.reduceSub, and_self, and_true, true_and, reduceIte, reduceCtorEq, eq_self, implies_true, forall_const, false_implies, imp_self, decide_true, decide_false, fix_nil, fix_cons, g0, g0r, t2, t3, t5, g1, g1r, g2, g2a, g2r, lu, hwu]
    refine GO_call ((r_spec_l01In (nd r.1 i).1 0 ((under.length : Int) - 1) _).mono ?_)
    rintro _ H3 ⟨k3, rfl⟩
    have n3 := k3.nxt
    have g3 := (k3.get (H1.nxt) (by omega)).trans g2
    have g3a := (k3.get (H.nxt) (by omega)).trans g2a
    have g3r := (k3.get (H.nxt + 1) (by omega)).trans g2r
    have k03 := k0.trans (k1.trans (k2.trans k3))
    by_cases c1 : inR 0 ((under.length : Int) - 1) (nd r.1 i).1 = true
    rotate_left
    · have c1' : inR 0 ((under.length : Int) - 1) (nd r.1 i).1 = false := by simpa using c1
      simp (maxSteps := 4000000) (disch := omega) only [Zq, evO, vbox, wr, Zeq, if_true, if_false, Nat.reduceEqDiff, Nat.reduceAdd, Nat.reduceLeDiff, Nat.reduceSub, and_self, and_true, true_and, reduceIte, reduceCtorEq, eq_self, implies_true, forall_const, false_implies, imp_self, decide_true, decide_false, fix_nil, fix_cons, g0, g0r, t2, t3, t5, g1, g1r, g2, g2a, g2r, g3, g3a, g3r, c1']
      exact ⟨k03, bad1 i hin (by rw [ndOk, c1']; rfl)⟩
    simp (maxSteps := 4000000) (disch := omega) only [Zq, evO, vbox, wr, Zeq, if_true, if_false, Nat.reduceEqDiff, Nat.reduceAdd, Nat.reduceLeDiff, Nat.reduceSub, and_self, and_true, true_and, reduceIte, reduceCtorEq, eq_self, implies_true, forall_const, false_implies, imp_self, decide_true, decide_false, fix_nil, fix_cons, g0, g0r, t2, t3, t5, g1, g1r, g2, g2a, g2r, g3, g3a, g3r, c1]
    refine GO_call ((r_spec_l01In (nd r.1 i).2 0 1 _).mono ?_)
    rintro _ H4 ⟨k4, rfl⟩
    have n4 := k4.nxt
    have g4 := (k4.get (H1.nxt) (by omega)).trans g3
    have g4a := (k4.get (H.nxt) (by omega)).trans g3a
    have g4r := (k4.get (H.nxt + 1) (by omega)).trans g3r
    have k04 := k03.trans k4
    by_cases c2 : inR 0 1 (nd r.1 i).2 = true
    rotate_left
    · have c2' : inR 0 1 (nd r.1 i).2 = false := by simpa using c2
      simp (maxSteps := 4000000) (disch := omega) only [Zq, evO, vbox, wr, Zeq, if_true, if_false, Nat.reduceEqDiff, Nat.reduceAdd, Nat.reduceLeDiff, Nat.reduceSub, and_self, and_true, true_and, reduceIte, reduceCtorEq, eq_self, implies_true, forall_const, false_implies, imp_self, decide_true, decide_false, fix_nil, fix_cons, g0, g0r, t2, t3, t5, g1, g1r, g2, g2a, g2r, g3, g3a, g3r, g4, g4a, g4r, c2']
      exact ⟨k04, bad1 i hin (by rw [ndOk, c2']; simp)⟩
    by_cases c3 : 0 < i
    · obtain ⟨_, e6, _⟩ := need_el ((rSlc rNeed).rdk hn k04) (show i - 1 < r.1.length by omega)
      have ix := fun H0 : Heap => slc_idx (r := rNeed) (H1 := H0) (sz := 2) (i := i - 1) (k := .i64) rfl hn (by omega)
      by_cases c4 : (nd r.1 i).1 ≤ (nd r.1 (i - 1)).1
      · simp (maxSteps := 4000000) (disch := omega) only [Zq, evO, vbox, wr, Zeq, if_true, if_false, Nat.reduceEqDiff, Nat.reduceAdd, Nat.reduceLeDiff, Nat.reduceSub, and_self, and_true, true_and, reduceIte, reduceCtorEq, eq_self, implies_true, forall_const, false_implies, imp_self, decide_true, decide_false, fix_nil, fix_cons, g0, g0r, t2, t3, t5, g1, g1r, g2, g2a, g2r, g3, g3a, g3r, g4, g4a, g4r, c2, wrap_pred, ix, slc_fad (r := rNeed) (sz := 2) rfl hn (show i - 1 < r.1.length by omega), e6]
        exact ⟨k04, bad1 i hin (by simp [ndOk, c3, c4])⟩
      · simp (maxSteps := 4000000) (disch := omega) only [Zq, evO, vbox, wr, Zeq, if_true, if_false, Nat.reduceEqDiff, Nat.reduceAdd, Nat.reduceLeDiff, Nat.reduceSub, and_self, and_true, true_and, reduceIte, reduceCtorEq, eq_self, implies_true, forall_const, false_implies, imp_self, decide_true, decide_false, fix_nil, fix_cons, g0, g0r, t2, t3, t5, g1, g1r, g2, g2a, g2r, g3, g3a, g3r, g4, g4a, g4r, c2, wrap_pred, ix, slc_fad (r := rNeed) (sz := 2) rfl hn (show i - 1 < r.1.length by omega), e6]
        exact ⟨hin, k1.trans (k2.trans (k3.trans k4)), upto_succ ha (by simp [ndOk, c1, c2, c4])⟩
    · simp (maxSteps := 4000000) (disch := omega) only [Zq, evO, vbox, wr, Zeq, if_true, if_false, Nat.reduceEqDiff, Nat.reduceAdd, Nat.reduceLeDiff, Nat.reduceSub, and_self, and_true, true_and, reduceIte, reduceCtorEq, eq_self, implies_true, forall_const, false_implies, imp_self, decide_true, decide_false, fix_nil, fix_cons, g0, g0r, t2, t3, t5, g1, g1r, g2, g2a, g2r, g3, g3a, g3r, g4, g4a, g4r, c2]
      exact ⟨hin, k1.trans (k2.trans (k3.trans k4)), upto_succ ha (by simp [ndOk, c1, c2, c3])⟩
  obtain rfl : i = r.1.length := by omega
  have ha' := allTo_iff.2 ha
  have k01 := k0.trans k1
  simp (maxSteps := 4000000) (disch := omega) only [Zq, evO, vbox, wr, Zeq, if_true, if_false, Nat.reduceEqDiff, Nat.reduceAdd, Nat.reduceLeDiff, Nat.reduceSub, and_self, and_true, true_and, reduceIte, reduceCtorEq, eq_self, implies_true, forall_const, false_implies, imp_self, decide_true, decide_false, fix_nil, fix_cons, g0, g0r, t2, t3, t5, g1, g1r, ln]
  refine G_forF [2, 3] (r.2.length) (fun i T H2 => T 7 = .int .i64 (i : Int) ∧ Keep H1 H2 ∧ ∀ j, j < i → bkOk b r.2 j = true) 0 (Nat.zero_le _) ?_ ?_
  · simp (maxSteps := 4000000) (disch := omega) only [Zq, evO, vbox, wr, Zeq, if_true, if_false, Nat.reduceEqDiff, Nat.reduceAdd, Nat.reduceLeDiff, Nat.reduceSub, and_self, and_true, true_and, reduceIte, reduceCtorEq, eq_self, implies_true, forall_const, false_implies, imp_self, decide_true, decide_false, fix_nil, fix_cons, g0, g0r, t2, t3, t5, g1, g1r]
    exact ⟨Keep.refl _, fun j hj => by omega⟩
  rintro i T H2 hi hT ⟨t7, k2, hb2⟩
  simp only [fix_nil, fix_cons, Zq, evO, vbox, wr, Zeq, if_true, if_false, Nat.reduceEqDiff, Nat.reduceAdd, Nat.reduceLeDiff, Nat.reduceSub, and_self, and_true, true_and, reduceIte, reduceCtorEq, eq_self, implies_true, forall_const, false_implies, imp_self, decide_true, decide_false, t2, t3, t5] at hT
  obtain ⟨t2, t3⟩ := hT
  have n2 := k2.nxt
  have g2 := (k2.get H.nxt (by omega)).trans g1
  have g2r := (k2.get (H.nxt + 1) (by omega)).trans g1r
  have k02 := k01.trans k2
  by_cases hin : i < r.2.length
  · have hbi := (ints_of hb).keep k02
    simp (maxSteps := 4000000) (disch := omega) only [Zq, evO, vbox, wr, Zeq, if_true, if_false, Nat.reduceEqDiff, Nat.reduceAdd, Nat.reduceLeDiff, Nat.reduceSub, and_self, and_true, true_and, reduceIte, reduceCtorEq, eq_self, implies_true, forall_const, false_implies, imp_self, decide_true, decide_false, fix_nil, fix_cons, g0, g0r, t2, t3, t5, g1, g1r, t7, g2, g2r, lb]
    refine G_tame rfl ?_
    simp (maxSteps := 4000000) (disch := omega) only [Zq, evO, vbox, wr, Zeq, if_true, if_false, Nat.reduceEqDiff, Nat.reduceAdd, Nat.reduceLeDiff, Nat.reduceSub, and_self, and_true, true_and, reduceIte, reduceCtorEq, eq_self, implies_true, forall_const, false_implies, imp_self, decide_true, decide_false, fix_nil, fix_cons, g0, g0r, t2, t3, t5, g1, g1r, t7, g2, g2r, hbi.idx hin, hbi.ld hin, hwb]
    refine GO_call ((r_spec_l01In (r.2.getD i 0) 0 (b - 1) _).mono ?_)
    rintro _ H3 ⟨k3, rfl⟩
    have n3 := k3.nxt
    have g3 := (k3.get (H.nxt) (by omega)).trans g2
    have g3r := (k3.get (H.nxt + 1) (by omega)).trans g2r
    have k03 := k02.trans k3
    by_cases d1 : inR 0 (b - 1) (r.2.getD i 0) = true
    rotate_left
    · have d1' : inR 0 (b - 1) (r.2.getD i 0) = false := by simpa using d1
      simp (maxSteps := 4000000) (disch := omega) only [Zq, evO, vbox, wr, Zeq, if_true, if_false, Nat.reduceEqDiff, Nat.reduceAdd, Nat.reduceLeDiff, Nat.reduceSub, and_self, and_true, true_and, reduceIte, reduceCtorEq, eq_self, implies_true, forall_const, false_implies, imp_self, decide_true, decide_false, fix_nil, fix_cons, g0, g0r, t2, t3, t5, g1, g1r, t7, g2, g2r, g3, g3r, d1']
      exact ⟨k03, bad2 i hin (by rw [bkOk, d1']; rfl)⟩
    have hbi3 := (ints_of hb).keep k03
    have hsl := fun H1 : Heap => Sl.slc_hi (H1 := H1) (k := .i64) hbi3 (show i ≤ r.2.length by omega)
    have hsub := IntsK.sub hbi3 (Nat.zero_le i) (show i ≤ r.2.length by omega)
    rw [List.drop_zero, Nat.sub_zero] at hsub
    simp (maxSteps := 4000000) (disch := omega) only [Zq, evO, vbox, wr, Zeq, if_true, if_false, Nat.reduceEqDiff, Nat.reduceAdd, Nat.reduceLeDiff, Nat.reduceSub, and_self, and_true, true_and, reduceIte, reduceCtorEq, eq_self, implies_true, forall_const, false_implies, imp_self, decide_true, decide_false, fix_nil, fix_cons, g0, g0r, t2, t3, t5, g1, g1r, t7, g2, g2r, g3, g3r, d1, hsl, hbi3.idx hin, hbi3.ld hin]
    refine GO_call ((r_spec_l01Has (x := r.2.getD i 0) hsub (by rw [List.length_take]; omega)).mono ?_)
    rintro _ H4 ⟨k4, rfl⟩
    have n4 := k4.nxt
    by_cases d2 : (r.2.take i).contains (r.2.getD i 0) = true
    · simp (maxSteps := 4000000) (disch := omega) only [Zq, evO, vbox, wr, Zeq, if_true, if_false, Nat.reduceEqDiff, Nat.reduceAdd, Nat.reduceLeDiff, Nat.reduceSub, and_self, and_true, true_and, reduceIte, reduceCtorEq, eq_self, implies_true, forall_const, false_implies, imp_self, decide_true, decide_false, fix_nil, fix_cons, g0, g0r, t2, t3, t5, g1, g1r, t7, g2, g2r, g3, g3r, d2]
      exact ⟨k03.trans k4, bad2 i hin (by rw [bkOk, d2]; simp)⟩
    · have d2' : (r.2.take i).contains (r.2.getD i 0) = false := by simpa using d2
      simp (maxSteps := 4000000) (disch := omega) only [Zq, evO, vbox, wr, Zeq, if_true, if_false, Nat.reduceEqDiff, Nat.reduceAdd, Nat.reduceLeDiff, Nat.reduceSub, and_self, and_true, true_and, reduceIte, reduceCtorEq, eq_self, implies_true, forall_const, false_implies, imp_self, decide_true, decide_false, fix_nil, fix_cons, g0, g0r, t2, t3, t5, g1, g1r, t7, g2, g2r, g3, g3r, d2']
      exact ⟨hin, k2.trans (k3.trans k4), upto_succ hb2 (by rw [bkOk, d1, d2']; rfl)⟩
  obtain rfl : i = r.2.length := by omega
  by_cases c1 : 0 < r.2.length
  · simp (maxSteps := 4000000) (disch := omega) only [Zq, evO, vbox, wr, Zeq, if_true, if_false, Nat.reduceEqDiff, Nat.reduceAdd, Nat.reduceLeDiff, Nat.reduceSub, and_self, and_true, true_and, reduceIte, reduceCtorEq, eq_self, implies_true, forall_const, false_implies, imp_self, decide_true, decide_false, fix_nil, fix_cons, g0, g0r, t2, t3, t5, g1, g1r, t7, g2, g2r, lb]
    exact ⟨k02, by rw [rtOk, ha', allTo_iff.2 hb2, decide_eq_true (by omega)]; rfl⟩
  · simp (maxSteps := 4000000) (disch := omega) only [Zq, evO, vbox, wr, Zeq, if_true, if_false, Nat.reduceEqDiff, Nat.reduceAdd, Nat.reduceLeDiff, Nat.reduceSub, and_self, and_true, true_and, reduceIte, reduceCtorEq, eq_self, implies_true, forall_const, false_implies, imp_self, decide_true, decide_false, fix_nil, fix_cons, g0, g0r, t2, t3, t5, g1, g1r, t7, g2, g2r, lb]
    exact ⟨k02, by rw [rtOk, ha', decide_eq_false (by omega)]; rfl⟩
end
/-- Routes' sizes, from a whole's. -/
theorem rt_tot {l : List Rt} {m : Nat} (h : (rSlc rRoute).tot l ≤ m) {i : Nat} (hi : i < l.length) : (rt l i).1.length ≤ m ∧ (rt l i).2.length ≤ m := by
  have h1 := tot_get (r := rRoute) hi
  have e : rRoute.tot l[i] = (rSlc rNeed).tot l[i].1 + (rSlc rInt).tot l[i].2 := route_tot (x0 := l[i].1) (x1 := l[i].2)
  rw [e, flat_tot, leaf_tot] at h1
  rw [rt, getD_get _ _ hi]
  omega
theorem plant_tot' {under : List Int} {b : Int} {routes : List Rt} {m : Nat} (h : rPlant.tot (under, b, routes) ≤ m) : under.length ≤ m ∧ routes.length ≤ m ∧ (rSlc rRoute).tot routes ≤ m := by
  rw [plant_tot, leaf_tot] at h
  have := tot_len (r := rRoute) (xs := routes) (Nat.le_refl _)
  exact ⟨by omega, by omega, by omega⟩
def plOk (under : List Int) (b : Int) (routes : List Rt) : Bool := inR 1 24 b && (decide (under.length ≤ 16) && (decide (routes.length ≤ 12) && (allTo under.length (fun i => inR 0 (b - 1) (under.getD i 0)) && allTo routes.length (fun i => rtOk under.length b (rt routes i)))))
section
variable {H : Heap} {vu vr : Value} {under : List Int} {b : Int} {routes : List Rt}
theorem r_impl_PlantOk (hu : (rSlc rInt).rd H [vu] under) (hr : (rSlc rRoute).rd H [vr] routes) (ht : rPlant.tot (under, b, routes) ≤ 1048576) : Run Try.prog 47 [.agg #[vu, .int .i64 b, vr]] H fun x H' => Keep H H' ∧ x = .bool (plOk under b routes) := by
  obtain ⟨m1, m2, m3⟩ := plant_tot' ht
  have lu : ∀ H : Heap, vlen H vu = some (.int .i64 under.length, H) := fun _ => slc_len hu
  have lr : ∀ H : Heap, vlen H vr = some (.int .i64 routes.length, H) := fun _ => slc_len hr
  refine Run.intro c47 rfl ?_
  simp (maxSteps := 4000000) (disch := omega) only [Zq, evO, vbox, wr, Zeq, if_true, if_false, Nat.reduceEqDiff, Nat.reduceAdd, Nat.reduceLeDiff, Nat.reduceSub, and_self, and_true, true_and, reduceIte, reduceCtorEq, eq_self, implies_true, forall_const, false_implies, imp_self, decide_true, decide_false, x47]
  generalize hG0 : H.push [vu, .int .i64 b, vr] = H0
  have k0 : Keep H H0 := by rw [← hG0]; exact Keep.push _ _
  have g0 : H0.get H.nxt = some (.own [vu, .int .i64 b, vr]) := by rw [← hG0, push_get', if_pos rfl]
  have n0 : H0.nxt = H.nxt + 1 := by rw [← hG0, Zbg]
  refine GO_call ((r_impl_between b 1 24 _).mono ?_)
  rintro _ H1 ⟨k1, rfl⟩
  have n1 := k1.nxt
  have g1 := (k1.get (H.nxt) (by omega)).trans g0
  have k01 := k0.trans k1
  by_cases c1 : inR 1 24 b = true
  rotate_left
  · have c1' : inR 1 24 b = false := by simpa using c1
    simp (maxSteps := 4000000) (disch := omega) only [Zq, evO, vbox, wr, Zeq, if_true, if_false, Nat.reduceEqDiff, Nat.reduceAdd, Nat.reduceLeDiff, Nat.reduceSub, and_self, and_true, true_and, reduceIte, reduceCtorEq, eq_self, implies_true, forall_const, false_implies, imp_self, decide_true, decide_false, fix_nil, fix_cons, g0, g1, c1']
    exact ⟨k01, by rw [plOk, c1']; rfl⟩
  have hb := inR_iff.1 c1
  have hwb : IntKind.i64.wrap (b - 1) = b - 1 := wrap64 (by omega) (by omega)
  by_cases c2 : under.length ≤ 16
  rotate_left
  · simp (maxSteps := 4000000) (disch := omega) only [Zq, evO, vbox, wr, Zeq, if_true, if_false, Nat.reduceEqDiff, Nat.reduceAdd, Nat.reduceLeDiff, Nat.reduceSub, and_self, and_true, true_and, reduceIte, reduceCtorEq, eq_self, implies_true, forall_const, false_implies, imp_self, decide_true, decide_false, fix_nil, fix_cons, g0, g1, c1, lu]
    exact ⟨k01, by rw [plOk, c1, decide_eq_false c2]; rfl⟩
  by_cases c3 : routes.length ≤ 12
  rotate_left
  · simp (maxSteps := 4000000) (disch := omega) only [Zq, evO, vbox, wr, Zeq, if_true, if_false, Nat.reduceEqDiff, Nat.reduceAdd, Nat.reduceLeDiff, Nat.reduceSub, and_self, and_true, true_and, reduceIte, reduceCtorEq, eq_self, implies_true, forall_const, false_implies, imp_self, decide_true, decide_false, fix_nil, fix_cons, g0, g1, c1, lu, lr]
    exact ⟨k01, by rw [plOk, c1, decide_eq_true c2, decide_eq_false c3]; rfl⟩
  have hpl : plOk under b routes = (allTo under.length (fun i => inR 0 (b - 1) (under.getD i 0)) && allTo routes.length (fun i => rtOk under.length b (rt routes i))) := by rw [plOk, c1, decide_eq_true c2, decide_eq_true c3]; rfl
  simp (maxSteps := 4000000) (disch := omega) only [Zq, evO, vbox, wr, Zeq, if_true, if_false, Nat.reduceEqDiff, Nat.reduceAdd, Nat.reduceLeDiff, Nat.reduceSub, and_self, and_true, true_and, reduceIte, reduceCtorEq, eq_self, implies_true, forall_const, false_implies, imp_self, decide_true, decide_false, fix_nil, fix_cons, g0, g1, c1, lu, lr]
  clear hG0
  refine G_forF [1, 24, 25] (under.length) (fun i T H2 => T 26 = .int .i64 (i : Int) ∧ Keep H1 H2 ∧ ∀ j, j < i → inR 0 (b - 1) (under.getD j 0) = true) 0 (Nat.zero_le _) ?_ ?_
  · simp (maxSteps := 4000000) (disch := omega) only [Zq, evO, vbox, wr, Zeq, if_true, if_false, Nat.reduceEqDiff, Nat.reduceAdd, Nat.reduceLeDiff, Nat.reduceSub, and_self, and_true, true_and, reduceIte, reduceCtorEq, eq_self, implies_true, forall_const, false_implies, imp_self, decide_true, decide_false, fix_nil, fix_cons, g0, g1]
    exact ⟨Keep.refl _, fun j hj => by omega⟩
  rintro i T H2 hi hT ⟨t26, k2, ha⟩
  simp only [fix_nil, fix_cons, Zq, evO, vbox, wr, Zeq, if_true, if_false, Nat.reduceEqDiff, Nat.reduceAdd, Nat.reduceLeDiff, Nat.reduceSub, and_self, and_true, true_and, reduceIte, reduceCtorEq, eq_self, implies_true, forall_const, false_implies, imp_self, decide_true, decide_false] at hT
  obtain ⟨t1, t24, t25⟩ := hT
  have n2 := k2.nxt
  have k02 := k01.trans k2
  have g2 := (k2.get H.nxt (by omega)).trans g1
  by_cases hin : i < under.length
  · have hi2 := (ints_of hu).keep k02
    simp (maxSteps := 4000000) (disch := omega) only [Zq, evO, vbox, wr, Zeq, if_true, if_false, Nat.reduceEqDiff, Nat.reduceAdd, Nat.reduceLeDiff, Nat.reduceSub, and_self, and_true, true_and, reduceIte, reduceCtorEq, eq_self, implies_true, forall_const, false_implies, imp_self, decide_true, decide_false, fix_nil, fix_cons, g0, g1, t1, t24, t25, t26, g2, hi2.idx hin, hi2.ld hin, hwb]
    refine GO_call ((r_impl_between (under.getD i 0) 0 (b - 1) _).mono ?_)
    rintro _ H3 ⟨k3, rfl⟩
    have n3 := k3.nxt
    by_cases d1 : inR 0 (b - 1) (under.getD i 0) = true
    · simp (maxSteps := 4000000) (disch := omega) only [Zq, evO, vbox, wr, Zeq, if_true, if_false, Nat.reduceEqDiff, Nat.reduceAdd, Nat.reduceLeDiff, Nat.reduceSub, and_self, and_true, true_and, reduceIte, reduceCtorEq, eq_self, implies_true, forall_const, false_implies, imp_self, decide_true, decide_false, fix_nil, fix_cons, g0, g1, t1, t24, t25, t26, g2, d1]
      exact ⟨hin, k2.trans k3, upto_succ (f := fun i => inR 0 (b - 1) (under.getD i 0)) ha d1⟩
    · have d1' : inR 0 (b - 1) (under.getD i 0) = false := by simpa using d1
      simp (maxSteps := 4000000) (disch := omega) only [Zq, evO, vbox, wr, Zeq, if_true, if_false, Nat.reduceEqDiff, Nat.reduceAdd, Nat.reduceLeDiff, Nat.reduceSub, and_self, and_true, true_and, reduceIte, reduceCtorEq, eq_self, implies_true, forall_const, false_implies, imp_self, decide_true, decide_false, fix_nil, fix_cons, g0, g1, t1, t24, t25, t26, g2, d1']
      exact ⟨k02.trans k3, by rw [hpl, allTo_bad hin d1']; rfl⟩
  obtain rfl : i = under.length := by omega
  have ha' := allTo_iff (f := fun i => inR 0 (b - 1) (under.getD i 0)) |>.2 ha
  simp (maxSteps := 4000000) (disch := omega) only [Zq, evO, vbox, wr, Zeq, if_true, if_false, Nat.reduceEqDiff, Nat.reduceAdd, Nat.reduceLeDiff, Nat.reduceSub, and_self, and_true, true_and, reduceIte, reduceCtorEq, eq_self, implies_true, forall_const, false_implies, imp_self, decide_true, decide_false, fix_nil, fix_cons, g0, g1, t1, t24, t25, t26, g2, lr]
  refine G_forF [1, 38, 39] (routes.length) (fun i T H3 => T 40 = .int .i64 (i : Int) ∧ Keep H2 H3 ∧ ∀ j, j < i → rtOk under.length b (rt routes j) = true) 0 (Nat.zero_le _) ?_ ?_
  · simp (maxSteps := 4000000) (disch := omega) only [Zq, evO, vbox, wr, Zeq, if_true, if_false, Nat.reduceEqDiff, Nat.reduceAdd, Nat.reduceLeDiff, Nat.reduceSub, and_self, and_true, true_and, reduceIte, reduceCtorEq, eq_self, implies_true, forall_const, false_implies, imp_self, decide_true, decide_false, fix_nil, fix_cons, g0, g1, t1, t24, t25, t26, g2]
    exact ⟨Keep.refl _, fun j hj => by omega⟩
  rintro i T H3 hi hT ⟨t40, k3, hb3⟩
  simp only [fix_nil, fix_cons, Zq, evO, vbox, wr, Zeq, if_true, if_false, Nat.reduceEqDiff, Nat.reduceAdd, Nat.reduceLeDiff, Nat.reduceSub, and_self, and_true, true_and, reduceIte, reduceCtorEq, eq_self, implies_true, forall_const, false_implies, imp_self, decide_true, decide_false, t1, t24, t25, t26] at hT
  obtain ⟨t1, t38, t39⟩ := hT
  have n3 := k3.nxt
  have k03 := k02.trans k3
  have g3 := (k3.get H.nxt (by omega)).trans g2
  by_cases hin : i < routes.length
  · obtain ⟨vn, vb, e3, _, _, hn, hbb⟩ := route_el ((rSlc rRoute).rdk hr k03) hin
    obtain ⟨r1, r2⟩ := rt_tot m3 hin
    simp (maxSteps := 4000000) (disch := omega) only [Zq, evO, vbox, wr, Zeq, if_true, if_false, Nat.reduceEqDiff, Nat.reduceAdd, Nat.reduceLeDiff, Nat.reduceSub, and_self, and_true, true_and, reduceIte, reduceCtorEq, eq_self, implies_true, forall_const, false_implies, imp_self, decide_true, decide_false, fix_nil, fix_cons, g0, g1, t1, t24, t25, t26, g2, t38, t39, t40, g3, slc_idx (r := rRoute) (sz := 2) rfl hr hin, e3]
    generalize hG4 : (H3.push [.slice none 0 0, .slice none 0 0]).set H3.nxt [vn, vb] = H4
    have k4 : Keep H3 H4 := by rw [← hG4]; repeat' (first | exact Keep.refl _ | assumption | refine Keep.push' ?_ | refine Keep.set' ?_ ?_ | refine Keep.moved' ?_ ?_ | omega)
    have g4 : H4.get H3.nxt = some (.own [vn, vb]) := by rw [← hG4, Zbi, if_pos rfl]
    have n4 : H4.nxt = H3.nxt + 1 := by rw [← hG4, Zbh, Zbg]
    have g4a := (k4.get H.nxt (by omega)).trans g3
    have k04 := k03.trans k4
    refine GO_call ((r_impl_routeOk (vr := vr) (r := rt routes i) ((rSlc rInt).rdk hu k04) ((rSlc rNeed).rdk hn k4) ((rSlc rInt).rdk hbb k4) m1 r1 r2 (by omega) (by omega)).mono ?_)
    rintro _ H5 ⟨k5, rfl⟩
    have n5 := k5.nxt
    by_cases d1 : rtOk under.length b (rt routes i) = true
    · simp (maxSteps := 4000000) (disch := omega) only [Zq, evO, vbox, wr, Zeq, if_true, if_false, Nat.reduceEqDiff, Nat.reduceAdd, Nat.reduceLeDiff, Nat.reduceSub, and_self, and_true, true_and, reduceIte, reduceCtorEq, eq_self, implies_true, forall_const, false_implies, imp_self, decide_true, decide_false, fix_nil, fix_cons, g0, g1, t1, t24, t25, t26, g2, t38, t39, t40, g3, g4, g4a, d1]
      exact ⟨hin, k3.trans (k4.trans k5), upto_succ (f := fun i => rtOk under.length b (rt routes i)) hb3 d1⟩
    · have d1' : rtOk under.length b (rt routes i) = false := by simpa using d1
      simp (maxSteps := 4000000) (disch := omega) only [Zq, evO, vbox, wr, Zeq, if_true, if_false, Nat.reduceEqDiff, Nat.reduceAdd, Nat.reduceLeDiff, Nat.reduceSub, and_self, and_true, true_and, reduceIte, reduceCtorEq, eq_self, implies_true, forall_const, false_implies, imp_self, decide_true, decide_false, fix_nil, fix_cons, g0, g1, t1, t24, t25, t26, g2, t38, t39, t40, g3, g4, g4a, d1']
      exact ⟨k04.trans k5, by rw [hpl, allTo_bad (f := fun i => rtOk under.length b (rt routes i)) hin d1']; simp⟩
  obtain rfl : i = routes.length := by omega
  simp (maxSteps := 4000000) (disch := omega) only [Zq, evO, vbox, wr, Zeq, if_true, if_false, Nat.reduceEqDiff, Nat.reduceAdd, Nat.reduceLeDiff, Nat.reduceSub, and_self, and_true, true_and, reduceIte, reduceCtorEq, eq_self, implies_true, forall_const, false_implies, imp_self, decide_true, decide_false, fix_nil, fix_cons, g0, g1, t1, t24, t25, t26, g2, t38, t39, t40, g3]
  exact ⟨k03, by rw [hpl, ha', allTo_iff (f := fun i => rtOk under.length b (rt routes i)) |>.2 hb3]; rfl⟩
theorem rt_small {n : Nat} {b : Int} {r : Rt} (h : rtOk n b r = true) (hn : n ≤ 16) (b1 : 1 ≤ b) (b2 : b ≤ 24) : r.1.length ≤ 16 ∧ r.2.length ≤ 24 := by
  simp only [rtOk, Bool.and_eq_true] at h
  have h1 := nd_len h.1
  have h2 := bk_len (by omega) h.2.2
  omega
theorem r_spec_PlantOk (hu : (rSlc rInt).rd H [vu] under) (hr : (rSlc rRoute).rd H [vr] routes) (ht : rPlant.tot (under, b, routes) ≤ 1048576) : Run Try.prog 53 [.agg #[vu, .int .i64 b, vr]] H fun x H' => Keep H H' ∧ x = .bool (plOk under b routes) := by
  obtain ⟨m1, m2, m3⟩ := plant_tot' ht
  have lu : ∀ H : Heap, vlen H vu = some (.int .i64 under.length, H) := fun _ => slc_len hu
  have lr : ∀ H : Heap, vlen H vr = some (.int .i64 routes.length, H) := fun _ => slc_len hr
  by_cases c2 : under.length ≤ 16
  rotate_left
  · refine Run.intro c53 rfl ?_
    simp (maxSteps := 4000000) (disch := omega) only [Zq, evO, vbox, wr, Zeq, if_true, if_false, Nat.reduceEqDiff, Nat.reduceAdd, Nat.reduceLeDiff, Nat.reduceSub, and_self, and_true, true_and, reduceIte, reduceCtorEq, eq_self, implies_true, forall_const, false_implies, imp_self, decide_true, decide_false, x53, lu]
    exact ⟨Keep.push _ _, by rw [plOk, decide_eq_false c2]; simp⟩
  refine Run.intro c53 rfl ?_
  simp (maxSteps := 4000000) (disch := omega) only [Zq, evO, vbox, wr, Zeq, if_true, if_false, Nat.reduceEqDiff, Nat.reduceAdd, Nat.reduceLeDiff, Nat.reduceSub, and_self, and_true, true_and, reduceIte, reduceCtorEq, eq_self, implies_true, forall_const, false_implies, imp_self, decide_true, decide_false, x53, lu]
  generalize hG0 : H.push [vu, .int .i64 b, vr] = H0
  have k0 : Keep H H0 := by rw [← hG0]; exact Keep.push _ _
  have g0 : H0.get H.nxt = some (.own [vu, .int .i64 b, vr]) := by rw [← hG0, push_get', if_pos rfl]
  have n0 : H0.nxt = H.nxt + 1 := by rw [← hG0, Zbg]
  refine GO_call ((r_spec_l01In b 1 24 _).mono ?_)
  rintro _ H1 ⟨k1, rfl⟩
  have n1 := k1.nxt
  have g1 := (k1.get (H.nxt) (by omega)).trans g0
  have k01 := k0.trans k1
  by_cases c1 : inR 1 24 b = true
  rotate_left
  · have c1' : inR 1 24 b = false := by simpa using c1
    simp (maxSteps := 4000000) (disch := omega) only [Zq, evO, vbox, wr, Zeq, if_true, if_false, Nat.reduceEqDiff, Nat.reduceAdd, Nat.reduceLeDiff, Nat.reduceSub, and_self, and_true, true_and, reduceIte, reduceCtorEq, eq_self, implies_true, forall_const, false_implies, imp_self, decide_true, decide_false, fix_nil, fix_cons, g0, g1, c1']
    exact ⟨k01, by rw [plOk, c1']; rfl⟩
  have hb := inR_iff.1 c1
  have hwb : IntKind.i64.wrap (b - 1) = b - 1 := wrap64 (by omega) (by omega)
  by_cases c3 : routes.length ≤ 12
  rotate_left
  · simp (maxSteps := 4000000) (disch := omega) only [Zq, evO, vbox, wr, Zeq, if_true, if_false, Nat.reduceEqDiff, Nat.reduceAdd, Nat.reduceLeDiff, Nat.reduceSub, and_self, and_true, true_and, reduceIte, reduceCtorEq, eq_self, implies_true, forall_const, false_implies, imp_self, decide_true, decide_false, fix_nil, fix_cons, g0, g1, c1, lu, lr]
    exact ⟨k01, by rw [plOk, c1, decide_eq_true c2, decide_eq_false c3]; rfl⟩
  have hpl : plOk under b routes = (allTo under.length (fun i => inR 0 (b - 1) (under.getD i 0)) && allTo routes.length (fun i => rtOk under.length b (rt routes i))) := by rw [plOk, c1, decide_eq_true c2, decide_eq_true c3]; rfl
  simp (maxSteps := 4000000) (disch := omega) only [Zq, evO, vbox, wr, Zeq, if_true, if_false, Nat.reduceEqDiff, Nat.reduceAdd, Nat.reduceLeDiff, Nat.reduceSub, and_self, and_true, true_and, reduceIte, reduceCtorEq, eq_self, implies_true, forall_const, false_implies, imp_self, decide_true, decide_false, fix_nil, fix_cons, g0, g1, c1, lu, lr]
  clear hG0
  refine G_forF [1] (under.length) (fun i T H2 => T 3 = .int .i64 (i : Int) ∧ Keep H1 H2 ∧ ∀ j, j < i → inR 0 (b - 1) (under.getD j 0) = true) 0 (Nat.zero_le _) ?_ ?_
  · simp (maxSteps := 4000000) (disch := omega) only [Zq, evO, vbox, wr, Zeq, if_true, if_false, Nat.reduceEqDiff, Nat.reduceAdd, Nat.reduceLeDiff, Nat.reduceSub, and_self, and_true, true_and, reduceIte, reduceCtorEq, eq_self, implies_true, forall_const, false_implies, imp_self, decide_true, decide_false, fix_nil, fix_cons, g0, g1]
    exact ⟨Keep.refl _, fun j hj => by omega⟩
  rintro i T H2 hi hT ⟨t3, k2, ha⟩
  simp only [fix_nil, fix_cons, Zq, evO, vbox, wr, Zeq, if_true, if_false, Nat.reduceEqDiff, Nat.reduceAdd, Nat.reduceLeDiff, Nat.reduceSub, and_self, and_true, true_and, reduceIte, reduceCtorEq, eq_self, implies_true, forall_const, false_implies, imp_self, decide_true, decide_false] at hT
  have t1 := hT
  have n2 := k2.nxt
  have k02 := k01.trans k2
  have g2 := (k2.get H.nxt (by omega)).trans g1
  by_cases hin : i < under.length
  · have hi2 := (ints_of hu).keep k02
    simp (maxSteps := 4000000) (disch := omega) only [Zq, evO, vbox, wr, Zeq, if_true, if_false, Nat.reduceEqDiff, Nat.reduceAdd, Nat.reduceLeDiff, Nat.reduceSub, and_self, and_true, true_and, reduceIte, reduceCtorEq, eq_self, implies_true, forall_const, false_implies, imp_self, decide_true, decide_false, fix_nil, fix_cons, g0, g1, t1, t3, g2, lu]
    refine G_tame rfl ?_
    simp (maxSteps := 4000000) (disch := omega) only [Zq, evO, vbox, wr, Zeq, if_true, if_false, Nat.reduceEqDiff, Nat.reduceAdd, Nat.reduceLeDiff, Nat.reduceSub, and_self, and_true, true_and, reduceIte, reduceCtorEq, eq_self, implies_true, forall_const, false_implies, imp_self, decide_true, decide_false, fix_nil, fix_cons, g0, g1, t1, t3, g2, hi2.idx hin, hi2.ld hin, hwb]
    refine GO_call ((r_spec_l01In (under.getD i 0) 0 (b - 1) _).mono ?_)
    rintro _ H3 ⟨k3, rfl⟩
    have n3 := k3.nxt
    by_cases d1 : inR 0 (b - 1) (under.getD i 0) = true
    · simp (maxSteps := 4000000) (disch := omega) only [Zq, evO, vbox, wr, Zeq, if_true, if_false, Nat.reduceEqDiff, Nat.reduceAdd, Nat.reduceLeDiff, Nat.reduceSub, and_self, and_true, true_and, reduceIte, reduceCtorEq, eq_self, implies_true, forall_const, false_implies, imp_self, decide_true, decide_false, fix_nil, fix_cons, g0, g1, t1, t3, g2, d1]
      exact ⟨hin, k2.trans k3, upto_succ (f := fun i => inR 0 (b - 1) (under.getD i 0)) ha d1⟩
    · have d1' : inR 0 (b - 1) (under.getD i 0) = false := by simpa using d1
      simp (maxSteps := 4000000) (disch := omega) only [Zq, evO, vbox, wr, Zeq, if_true, if_false, Nat.reduceEqDiff, Nat.reduceAdd, Nat.reduceLeDiff, Nat.reduceSub, and_self, and_true, true_and, reduceIte, reduceCtorEq, eq_self, implies_true, forall_const, false_implies, imp_self, decide_true, decide_false, fix_nil, fix_cons, g0, g1, t1, t3, g2, d1']
      exact ⟨k02.trans k3, by rw [hpl, allTo_bad hin d1']; rfl⟩
  obtain rfl : i = under.length := by omega
  have ha' := allTo_iff (f := fun i => inR 0 (b - 1) (under.getD i 0)) |>.2 ha
  simp (maxSteps := 4000000) (disch := omega) only [Zq, evO, vbox, wr, Zeq, if_true, if_false, Nat.reduceEqDiff, Nat.reduceAdd, Nat.reduceLeDiff, Nat.reduceSub, and_self, and_true, true_and, reduceIte, reduceCtorEq, eq_self, implies_true, forall_const, false_implies, imp_self, decide_true, decide_false, fix_nil, fix_cons, g0, g1, t1, t3, g2, lu]
  refine G_forF [1] (routes.length) (fun i T H3 => T 4 = .int .i64 (i : Int) ∧ Keep H2 H3 ∧ ∀ j, j < i → rtOk under.length b (rt routes j) = true) 0 (Nat.zero_le _) ?_ ?_
  · simp (maxSteps := 4000000) (disch := omega) only [Zq, evO, vbox, wr, Zeq, if_true, if_false, Nat.reduceEqDiff, Nat.reduceAdd, Nat.reduceLeDiff, Nat.reduceSub, and_self, and_true, true_and, reduceIte, reduceCtorEq, eq_self, implies_true, forall_const, false_implies, imp_self, decide_true, decide_false, fix_nil, fix_cons, g0, g1, t1, t3, g2]
    exact ⟨Keep.refl _, fun j hj => by omega⟩
  rintro i T H3 hi hT ⟨t4, k3, hb3⟩
  simp only [fix_nil, fix_cons, Zq, evO, vbox, wr, Zeq, if_true, if_false, Nat.reduceEqDiff, Nat.reduceAdd, Nat.reduceLeDiff, Nat.reduceSub, and_self, and_true, true_and, reduceIte, reduceCtorEq, eq_self, implies_true, forall_const, false_implies, imp_self, decide_true, decide_false, t1, t3] at hT
  have t1 := hT
  have n3 := k3.nxt
  have k03 := k02.trans k3
  have g3 := (k3.get H.nxt (by omega)).trans g2
  by_cases hin : i < routes.length
  · obtain ⟨vn, vb, e3, e4, e5, hn, hbb⟩ := route_el ((rSlc rRoute).rdk hr k03) hin
    obtain ⟨r1, r2⟩ := rt_tot m3 hin
    have ix := fun H0 : Heap => slc_idx (r := rRoute) (H1 := H0) (sz := 2) (i := i) (k := .i64) rfl hr hin
    have fx := fun (H0 : Heap) (o off : Nat) => slc_fad (r := rRoute) (H1 := H0) (sz := 2) (o := o) (off := off) rfl hr hin
    have lb : ∀ H : Heap, vlen H vb = some (.int .i64 (rt routes i).2.length, H) := fun _ => slc_len hbb
    have ln : ∀ H : Heap, vlen H vn = some (.int .i64 (rt routes i).1.length, H) := fun _ => slc_len hn
    have bad : rtOk under.length b (rt routes i) = false → Value.bool false = .bool (plOk under b routes) := fun h => by rw [hpl, allTo_bad (f := fun i => rtOk under.length b (rt routes i)) hin h]; simp
    have big : (¬ (rt routes i).1.length ≤ 16 ∨ ¬ (rt routes i).2.length ≤ 24) → rtOk under.length b (rt routes i) = false := fun h => by
      rw [← Bool.not_eq_true]
      intro hh
      have := rt_small hh c2 (by omega) (by omega)
      omega
    simp (maxSteps := 4000000) (disch := omega) only [Zq, evO, vbox, wr, Zeq, if_true, if_false, Nat.reduceEqDiff, Nat.reduceAdd, Nat.reduceLeDiff, Nat.reduceSub, and_self, and_true, true_and, reduceIte, reduceCtorEq, eq_self, implies_true, forall_const, false_implies, imp_self, decide_true, decide_false, fix_nil, fix_cons, g0, g1, t1, t3, g2, t4, g3, lr]
    refine G_tame rfl ?_
    by_cases d2 : (rt routes i).2.length ≤ 24
    rotate_left
    · simp (maxSteps := 4000000) (disch := omega) only [Zq, evO, vbox, wr, Zeq, if_true, if_false, Nat.reduceEqDiff, Nat.reduceAdd, Nat.reduceLeDiff, Nat.reduceSub, and_self, and_true, true_and, reduceIte, reduceCtorEq, eq_self, implies_true, forall_const, false_implies, imp_self, decide_true, decide_false, fix_nil, fix_cons, g0, g1, t1, t3, g2, t4, g3, ix, fx, e3, e4, e5, lb, ln]
      exact ⟨k03, bad (big (.inr d2))⟩
    by_cases d3 : (rt routes i).1.length ≤ 16
    rotate_left
    · simp (maxSteps := 4000000) (disch := omega) only [Zq, evO, vbox, wr, Zeq, if_true, if_false, Nat.reduceEqDiff, Nat.reduceAdd, Nat.reduceLeDiff, Nat.reduceSub, and_self, and_true, true_and, reduceIte, reduceCtorEq, eq_self, implies_true, forall_const, false_implies, imp_self, decide_true, decide_false, fix_nil, fix_cons, g0, g1, t1, t3, g2, t4, g3, ix, fx, e3, e4, e5, lb, ln]
      exact ⟨k03, bad (big (.inl d3))⟩
    simp (maxSteps := 4000000) (disch := omega) only [Zq, evO, vbox, wr, Zeq, if_true, if_false, Nat.reduceEqDiff, Nat.reduceAdd, Nat.reduceLeDiff, Nat.reduceSub, and_self, and_true, true_and, reduceIte, reduceCtorEq, eq_self, implies_true, forall_const, false_implies, imp_self, decide_true, decide_false, fix_nil, fix_cons, g0, g1, t1, t3, g2, t4, g3, ix, fx, e3, e4, e5, lb, ln]
    refine GO_call ((r_spec_l06Route (vr := vr) (r := rt routes i) ((rSlc rInt).rdk hu k03) hn hbb m1 r1 r2 (by omega) (by omega)).mono ?_)
    rintro _ H5 ⟨k5, rfl⟩
    have n5 := k5.nxt
    by_cases d1 : rtOk under.length b (rt routes i) = true
    · simp (maxSteps := 4000000) (disch := omega) only [Zq, evO, vbox, wr, Zeq, if_true, if_false, Nat.reduceEqDiff, Nat.reduceAdd, Nat.reduceLeDiff, Nat.reduceSub, and_self, and_true, true_and, reduceIte, reduceCtorEq, eq_self, implies_true, forall_const, false_implies, imp_self, decide_true, decide_false, fix_nil, fix_cons, g0, g1, t1, t3, g2, t4, g3, d1]
      exact ⟨hin, k3.trans k5, upto_succ (f := fun i => rtOk under.length b (rt routes i)) hb3 d1⟩
    · have d1' : rtOk under.length b (rt routes i) = false := by simpa using d1
      simp (maxSteps := 4000000) (disch := omega) only [Zq, evO, vbox, wr, Zeq, if_true, if_false, Nat.reduceEqDiff, Nat.reduceAdd, Nat.reduceLeDiff, Nat.reduceSub, and_self, and_true, true_and, reduceIte, reduceCtorEq, eq_self, implies_true, forall_const, false_implies, imp_self, decide_true, decide_false, fix_nil, fix_cons, g0, g1, t1, t3, g2, t4, g3, d1']
      exact ⟨k03.trans k5, bad d1'⟩
  obtain rfl : i = routes.length := by omega
  simp (maxSteps := 4000000) (disch := omega) only [Zq, evO, vbox, wr, Zeq, if_true, if_false, Nat.reduceEqDiff, Nat.reduceAdd, Nat.reduceLeDiff, Nat.reduceSub, and_self, and_true, true_and, reduceIte, reduceCtorEq, eq_self, implies_true, forall_const, false_implies, imp_self, decide_true, decide_false, fix_nil, fix_cons, g0, g1, t1, t3, g2, t4, g3, lr]
  exact ⟨k03, by rw [hpl, ha', allTo_iff (f := fun i => rtOk under.length b (rt routes i)) |>.2 hb3]; rfl⟩
end
end Go.Proofs.Ythjphddodooahaa.AX
