/- Lockings: when they are right. No condition beyond each law's own; of the program: the functions' forms. -/
import Derived.Test.YthjphddodooahaaPlc
namespace Go.Proofs.Ythjphddodooahaa.AX
open Go
set_option maxRecDepth 10000
set_option maxHeartbeats 4000000
set_option linter.unusedSimpArgs false
set_option linter.unusedVariables false
def posOk (pos : List Int) (l : List Nd) (i : Nat) : Bool := decide (pos.getD (nd l i).1.toNat 0 = (nd l i).2)
def agRow (set : List Bool) (routes : List Rt) (a j : Nat) : Bool := !(set.getD j false) || agNo (rt routes a) (rt routes j)
def rowOk (pos : List Int) (set : List Bool) (routes : List Rt) (a : Nat) : Bool := !(set.getD a false) || (allTo (rt routes a).1.length (posOk pos (rt routes a).1) && allTo a (agRow set routes a))
def lkOk (under : List Int) (b : Int) (routes : List Rt) (pos : List Int) (set taken : List Bool) : Bool :=
  plOk under b routes && (decide (pos.length = under.length) && (decide (set.length = routes.length) && (decide ((taken.length : Int) = b) && (allTo pos.length (fun i => inR 0 1 (pos.getD i 0)) && allTo routes.length (rowOk pos set routes)))))
theorem bool_el {H : Heap} {v : Value} {xs : List Bool} {i : Nat} (h : (rSlc rBool).rd H [v] xs) (hi : i < xs.length) : vld1 H (adr v i 1 0) = some (.bool (xs.getD i false), H) := by
  obtain ⟨row, h1, _, _, h3⟩ := slc_el (sz := 1) rfl (by omega) h hi
  have e : row = [.bool xs[i]] := h1
  subst e
  rw [getD_get _ _ hi]
  exact h3 0 _ rfl
theorem plOk_get {under : List Int} {b : Int} {routes : List Rt} (h : plOk under b routes = true) : 1 ≤ b ∧ b ≤ 24 ∧ under.length ≤ 16 ∧ routes.length ≤ 12 ∧ (∀ i, i < under.length → 0 ≤ under.getD i 0 ∧ under.getD i 0 < b) ∧ ∀ i, i < routes.length → rtOk under.length b (rt routes i) = true := by
  simp only [plOk, Bool.and_eq_true, decide_eq_true_eq] at h
  obtain ⟨h1, h2, h3, h4, h5⟩ := h
  have := inR_iff.1 h1
  refine ⟨this.1, this.2, h2, h3, fun i hi => ?_, fun i hi => allTo_iff.1 h5 i hi⟩
  have := inR_iff.1 (allTo_iff.1 h4 i hi)
  omega
theorem rtOk_nd {n : Nat} {b : Int} {r : Rt} (h : rtOk n b r = true) {i : Nat} (hi : i < r.1.length) : 0 ≤ (nd r.1 i).1 ∧ (nd r.1 i).1 < n := by
  simp only [rtOk, Bool.and_eq_true] at h
  have := allTo_iff.1 h.1 i hi
  simp only [ndOk, Bool.and_eq_true] at this
  have := inR_iff.1 this.1
  omega
theorem rtOk_bk {n : Nat} {b : Int} {r : Rt} (h : rtOk n b r = true) {i : Nat} (hi : i < r.2.length) : 0 ≤ r.2.getD i 0 ∧ r.2.getD i 0 < b := by
  simp only [rtOk, Bool.and_eq_true] at h
  have := allTo_iff.1 h.2.2 i hi
  simp only [bkOk, Bool.and_eq_true] at this
  have := inR_iff.1 this.1
  omega
section
variable {H : Heap} {vu vr vp vs vt : Value} {under : List Int} {b : Int} {routes : List Rt} {pos : List Int} {set taken : List Bool}
theorem row_1 {a i : Nat} (hs : set.getD a false = true) (hi : i < (rt routes a).1.length) (h : posOk pos (rt routes a).1 i = false) : rowOk pos set routes a = false := by
  rw [rowOk, hs, allTo_bad hi h]; rfl
theorem row_2 {a j : Nat} (hs : set.getD a false = true) (hj : j < a) (h : agRow set routes a j = false) : rowOk pos set routes a = false := by
  rw [rowOk, hs, allTo_bad hj h]; simp
theorem r_impl_LockingOk (hu : (rSlc rInt).rd H [vu] under) (hr : (rSlc rRoute).rd H [vr] routes) (hp : (rSlc rInt).rd H [vp] pos) (hs : (rSlc rBool).rd H [vs] set) (ht : (rSlc rBool).rd H [vt] taken) (tt : rPlant.tot (under, b, routes) ≤ 1048576) (tl : rLocking.tot (pos, set, taken) ≤ 1048576) : Run Try.prog 21 [.agg #[vu, .int .i64 b, vr], .agg #[vp, vs, vt]] H fun x H' => Keep H H' ∧ x = .bool (lkOk under b routes pos set taken) := by
  obtain ⟨m1, m2, m3⟩ := plant_tot' tt
  have tl' := tl
  rw [locking_tot, leaf_tot, leaf_tot, leaf_tot] at tl'
  have lu : ∀ H : Heap, vlen H vu = some (.int .i64 under.length, H) := fun _ => slc_len hu
  have lr : ∀ H : Heap, vlen H vr = some (.int .i64 routes.length, H) := fun _ => slc_len hr
  have lp : ∀ H : Heap, vlen H vp = some (.int .i64 pos.length, H) := fun _ => slc_len hp
  have ls : ∀ H : Heap, vlen H vs = some (.int .i64 set.length, H) := fun _ => slc_len hs
  have lt : ∀ H : Heap, vlen H vt = some (.int .i64 taken.length, H) := fun _ => slc_len ht
  refine Run.intro c21 rfl ?_
  simp (maxSteps := 4000000) (disch := omega) only [Zq, evO, vbox, wr, Zeq, if_true, if_false, Nat.reduceEqDiff, Nat.reduceAdd, Nat.reduceLeDiff, Nat.reduceSub, and_self, and_true, true_and, reduceIte, reduceCtorEq, eq_self, implies_true, forall_const, false_implies, imp_self, decide_true, decide_false, x21]
  generalize hG0 : (H.push [vu, .int .i64 b, vr]).push [vp, vs, vt] = H0
  have k0 : Keep H H0 := by rw [← hG0]; repeat' (first | exact Keep.refl _ | assumption | refine Keep.push' ?_ | refine Keep.set' ?_ ?_ | refine Keep.moved' ?_ ?_ | omega)
  have g0 : H0.get H.nxt = some (.own [vu, .int .i64 b, vr]) := by rw [← hG0]; simp (maxSteps := 4000000) (disch := omega) only [Zq, evO, vbox, wr, Zeq, if_true, if_false, Nat.reduceEqDiff, Nat.reduceAdd, Nat.reduceLeDiff, Nat.reduceSub, and_self, and_true, true_and, reduceIte, reduceCtorEq, eq_self, implies_true, forall_const, false_implies, imp_self, decide_true, decide_false]
  have g0r : H0.get (H.nxt + 1) = some (.own [vp, vs, vt]) := by rw [← hG0]; simp (maxSteps := 4000000) (disch := omega) only [Zq, evO, vbox, wr, Zeq, if_true, if_false, Nat.reduceEqDiff, Nat.reduceAdd, Nat.reduceLeDiff, Nat.reduceSub, and_self, and_true, true_and, reduceIte, reduceCtorEq, eq_self, implies_true, forall_const, false_implies, imp_self, decide_true, decide_false]
  have n0 : H0.nxt = H.nxt + 2 := by rw [← hG0]; simp only [Zbg]
  clear hG0
  refine GO_call ((r_impl_PlantOk ((rSlc rInt).rdk hu k0) ((rSlc rRoute).rdk hr k0) tt).mono ?_)
  rintro _ H1 ⟨k1, rfl⟩
  have n1 := k1.nxt
  have g1 := (k1.get (H.nxt) (by omega)).trans g0
  have g1r := (k1.get (H.nxt + 1) (by omega)).trans g0r
  have k01 := k0.trans k1
  by_cases c1 : plOk under b routes = true
  rotate_left
  · have c1' : plOk under b routes = false := by simpa using c1
    simp (maxSteps := 4000000) (disch := omega) only [Zq, evO, vbox, wr, Zeq, if_true, if_false, Nat.reduceEqDiff, Nat.reduceAdd, Nat.reduceLeDiff, Nat.reduceSub, and_self, and_true, true_and, reduceIte, reduceCtorEq, eq_self, implies_true, forall_const, false_implies, imp_self, decide_true, decide_false, fix_nil, fix_cons, g0, g0r, g1, g1r, c1']
    exact ⟨k01, by rw [lkOk, c1']; rfl⟩
  obtain ⟨b1, b2, u16, r12, hpu, hpr⟩ := plOk_get c1
  by_cases c2 : pos.length = under.length
  rotate_left
  · simp (maxSteps := 4000000) (disch := omega) only [Zq, evO, vbox, wr, Zeq, if_true, if_false, Nat.reduceEqDiff, Nat.reduceAdd, Nat.reduceLeDiff, Nat.reduceSub, and_self, and_true, true_and, reduceIte, reduceCtorEq, eq_self, implies_true, forall_const, false_implies, imp_self, decide_true, decide_false, fix_nil, fix_cons, g0, g0r, g1, g1r, c1, lp, lu]
    exact ⟨k01, by rw [lkOk, c1, decide_eq_false c2]; rfl⟩
  by_cases c3 : set.length = routes.length
  rotate_left
  · simp (maxSteps := 4000000) (disch := omega) only [Zq, evO, vbox, wr, Zeq, if_true, if_false, Nat.reduceEqDiff, Nat.reduceAdd, Nat.reduceLeDiff, Nat.reduceSub, and_self, and_true, true_and, reduceIte, reduceCtorEq, eq_self, implies_true, forall_const, false_implies, imp_self, decide_true, decide_false, fix_nil, fix_cons, g0, g0r, g1, g1r, c1, lp, lu, ls, lr]
    exact ⟨k01, by rw [lkOk, c1, decide_eq_true c2, decide_eq_false c3]; rfl⟩
  by_cases c4 : (taken.length : Int) = b
  rotate_left
  · simp (maxSteps := 4000000) (disch := omega) only [Zq, evO, vbox, wr, Zeq, if_true, if_false, Nat.reduceEqDiff, Nat.reduceAdd, Nat.reduceLeDiff, Nat.reduceSub, and_self, and_true, true_and, reduceIte, reduceCtorEq, eq_self, implies_true, forall_const, false_implies, imp_self, decide_true, decide_false, fix_nil, fix_cons, g0, g0r, g1, g1r, c1, lp, lu, ls, lr, lt, Zfm c4]
    exact ⟨k01, by rw [lkOk, c1, decide_eq_true c2, decide_eq_true c3, decide_eq_false c4]; rfl⟩
  have hlk : lkOk under b routes pos set taken = (allTo pos.length (fun i => inR 0 1 (pos.getD i 0)) && allTo routes.length (rowOk pos set routes)) := by rw [lkOk, c1, decide_eq_true c2, decide_eq_true c3, decide_eq_true c4]; rfl
  simp (maxSteps := 4000000) (disch := omega) only [Zq, evO, vbox, wr, Zeq, if_true, if_false, Nat.reduceEqDiff, Nat.reduceAdd, Nat.reduceLeDiff, Nat.reduceSub, and_self, and_true, true_and, reduceIte, reduceCtorEq, eq_self, implies_true, forall_const, false_implies, imp_self, decide_true, decide_false, fix_nil, fix_cons, g0, g0r, g1, g1r, c1, lp, lu, ls, lr, lt, Zfl c4]
  first | refine G_fix [2, 3, 42, 43, 44] ?_ | refine GO_fix [2, 3, 42, 43, 44] ?_ | refine cK_fix [2, 3, 42, 43, 44] ?_
  intro T hT
  simp only [fix_nil, fix_cons, Zq, evO, vbox, wr, Zeq, if_true, if_false, Nat.reduceEqDiff, Nat.reduceAdd, Nat.reduceLeDiff, Nat.reduceSub, and_self, and_true, true_and, reduceIte, reduceCtorEq, eq_self, implies_true, forall_const, false_implies, imp_self, decide_true, decide_false] at hT
  obtain ⟨t2, t3, t42, t43, t44⟩ := hT
  refine G_forF [2, 3, 42, 43] (pos.length) (fun i T H2 => T 44 = .int .i64 (i : Int) ∧ Keep H1 H2 ∧ ∀ j, j < i → inR 0 1 (pos.getD j 0) = true) 0 (Nat.zero_le _) ?_ ?_
  · simp (maxSteps := 4000000) (disch := omega) only [Zq, evO, vbox, wr, Zeq, if_true, if_false, Nat.reduceEqDiff, Nat.reduceAdd, Nat.reduceLeDiff, Nat.reduceSub, and_self, and_true, true_and, reduceIte, reduceCtorEq, eq_self, implies_true, forall_const, false_implies, imp_self, decide_true, decide_false, fix_nil, fix_cons, g0, g0r, g1, g1r, t2, t3, t42, t43, t44]
    exact ⟨Keep.refl _, fun j hj => by omega⟩
  rintro i T H2 hi hT ⟨t44, k2, ha⟩
  simp only [fix_nil, fix_cons, Zq, evO, vbox, wr, Zeq, if_true, if_false, Nat.reduceEqDiff, Nat.reduceAdd, Nat.reduceLeDiff, Nat.reduceSub, and_self, and_true, true_and, reduceIte, reduceCtorEq, eq_self, implies_true, forall_const, false_implies, imp_self, decide_true, decide_false, t2, t3, t42, t43, t44] at hT
  obtain ⟨t2, t3, t42, t43⟩ := hT
  have n2 := k2.nxt
  have k02 := k01.trans k2
  have g2 := (k2.get H.nxt (by omega)).trans g1
  have g2r := (k2.get (H.nxt + 1) (by omega)).trans g1r
  by_cases hin : i < pos.length
  · have hi2 := (ints_of hp).keep k02
    simp (maxSteps := 4000000) (disch := omega) only [Zq, evO, vbox, wr, Zeq, if_true, if_false, Nat.reduceEqDiff, Nat.reduceAdd, Nat.reduceLeDiff, Nat.reduceSub, and_self, and_true, true_and, reduceIte, reduceCtorEq, eq_self, implies_true, forall_const, false_implies, imp_self, decide_true, decide_false, fix_nil, fix_cons, g0, g0r, g1, g1r, t2, t3, t42, t43, t44, g2, g2r, hi2.idx hin, hi2.ld hin]
    refine GO_call ((r_impl_between (pos.getD i 0) 0 1 _).mono ?_)
    rintro _ H3 ⟨k3, rfl⟩
    have n3 := k3.nxt
    by_cases d1 : inR 0 1 (pos.getD i 0) = true
    · simp (maxSteps := 4000000) (disch := omega) only [Zq, evO, vbox, wr, Zeq, if_true, if_false, Nat.reduceEqDiff, Nat.reduceAdd, Nat.reduceLeDiff, Nat.reduceSub, and_self, and_true, true_and, reduceIte, reduceCtorEq, eq_self, implies_true, forall_const, false_implies, imp_self, decide_true, decide_false, fix_nil, fix_cons, g0, g0r, g1, g1r, t2, t3, t42, t43, t44, g2, g2r, d1]
      exact ⟨hin, k2.trans k3, upto_succ (f := fun i => inR 0 1 (pos.getD i 0)) ha d1⟩
    · have d1' : inR 0 1 (pos.getD i 0) = false := by simpa using d1
      simp (maxSteps := 4000000) (disch := omega) only [Zq, evO, vbox, wr, Zeq, if_true, if_false, Nat.reduceEqDiff, Nat.reduceAdd, Nat.reduceLeDiff, Nat.reduceSub, and_self, and_true, true_and, reduceIte, reduceCtorEq, eq_self, implies_true, forall_const, false_implies, imp_self, decide_true, decide_false, fix_nil, fix_cons, g0, g0r, g1, g1r, t2, t3, t42, t43, t44, g2, g2r, d1']
      exact ⟨k02.trans k3, by rw [hlk, allTo_bad (f := fun i => inR 0 1 (pos.getD i 0)) hin d1']; rfl⟩
  obtain rfl : i = pos.length := by omega
  have hA := allTo_iff (f := fun i => inR 0 1 (pos.getD i 0)) |>.2 ha
  rw [hA, Bool.true_and] at hlk
  simp (maxSteps := 4000000) (disch := omega) only [Zq, evO, vbox, wr, Zeq, if_true, if_false, Nat.reduceEqDiff, Nat.reduceAdd, Nat.reduceLeDiff, Nat.reduceSub, and_self, and_true, true_and, reduceIte, reduceCtorEq, eq_self, implies_true, forall_const, false_implies, imp_self, decide_true, decide_false, fix_nil, fix_cons, g0, g0r, g1, g1r, t2, t3, t42, t43, t44, g2, g2r, lr]
  clear ha hA g0 g0r g1 g1r k01
  refine G_forF [2, 3, 53, 54] (routes.length) (fun a T H3 => T 55 = .int .i64 (a : Int) ∧ Keep H2 H3 ∧ ∀ j, j < a → rowOk pos set routes j = true) 0 (Nat.zero_le _) ?_ ?_
  · simp (maxSteps := 4000000) (disch := omega) only [Zq, evO, vbox, wr, Zeq, if_true, if_false, Nat.reduceEqDiff, Nat.reduceAdd, Nat.reduceLeDiff, Nat.reduceSub, and_self, and_true, true_and, reduceIte, reduceCtorEq, eq_self, implies_true, forall_const, false_implies, imp_self, decide_true, decide_false, fix_nil, fix_cons, t2, t3, t42, t43, t44, g2, g2r]
    exact ⟨Keep.refl _, fun j hj => by omega⟩
  rintro a T H3 hi hT ⟨t55, k3, hd⟩
  simp only [fix_nil, fix_cons, Zq, evO, vbox, wr, Zeq, if_true, if_false, Nat.reduceEqDiff, Nat.reduceAdd, Nat.reduceLeDiff, Nat.reduceSub, and_self, and_true, true_and, reduceIte, reduceCtorEq, eq_self, implies_true, forall_const, false_implies, imp_self, decide_true, decide_false, t2, t3, t42, t43, t44] at hT
  obtain ⟨t2, t3, t53, t54⟩ := hT
  have n3 := k3.nxt
  have k03 := k02.trans k3
  have g3 := (k3.get H.nxt (by omega)).trans g2
  have g3r := (k3.get (H.nxt + 1) (by omega)).trans g2r
  by_cases hin : a < routes.length
  rotate_left
  · obtain rfl : a = routes.length := by omega
    simp (maxSteps := 4000000) (disch := omega) only [Zq, evO, vbox, wr, Zeq, if_true, if_false, Nat.reduceEqDiff, Nat.reduceAdd, Nat.reduceLeDiff, Nat.reduceSub, and_self, and_true, true_and, reduceIte, reduceCtorEq, eq_self, implies_true, forall_const, false_implies, imp_self, decide_true, decide_false, fix_nil, fix_cons, t2, t3, t42, t43, t44, g2, g2r, t53, t54, t55, g3, g3r]
    exact ⟨k03, by rw [hlk, allTo_iff.2 hd]⟩
  obtain ⟨vn, vb, e3, _, _, hn, hbb⟩ := route_el ((rSlc rRoute).rdk hr k03) hin
  obtain ⟨r1, r2⟩ := rt_tot m3 hin
  have hrt := hpr a hin
  have has : a < set.length := by omega
  have es := bool_el ((rSlc rBool).rdk hs k03) has
  have ixs := fun H0 : Heap => slc_idx (r := rBool) (H1 := H0) (sz := 1) (i := a) (k := .i64) rfl hs has
  have bad : rowOk pos set routes a = false → Value.bool false = .bool (lkOk under b routes pos set taken) := fun h => by rw [hlk, allTo_bad hin h]
  have ln : ∀ H : Heap, vlen H vn = some (.int .i64 (rt routes a).1.length, H) := fun _ => slc_len hn
  have es4 : vld1 ((H3.push [.slice none 0 0, .slice none 0 0]).set H3.nxt [vn, vb]) (adr vs a 1 0) = some (.bool (set.getD a false), (H3.push [.slice none 0 0, .slice none 0 0]).set H3.nxt [vn, vb]) := bool_el ((rSlc rBool).rdk hs (by repeat' (first | exact Keep.refl _ | assumption | refine Keep.push' ?_ | refine Keep.set' ?_ ?_ | refine Keep.moved' ?_ ?_ | omega))) has
  by_cases c5 : set.getD a false = true
  rotate_left
  · have c5' : set.getD a false = false := by simpa using c5
    rw [c5'] at es4
    simp (maxSteps := 4000000) (disch := omega) only [Zq, evO, vbox, wr, Zeq, if_true, if_false, Nat.reduceEqDiff, Nat.reduceAdd, Nat.reduceLeDiff, Nat.reduceSub, and_self, and_true, true_and, reduceIte, reduceCtorEq, eq_self, implies_true, forall_const, false_implies, imp_self, decide_true, decide_false, fix_nil, fix_cons, t2, t3, t42, t43, t44, g2, g2r, t53, t54, t55, g3, g3r, slc_idx (r := rRoute) (sz := 2) rfl hr hin, e3, ixs, es4]
    exact ⟨hin, by repeat' (first | exact Keep.refl _ | assumption | refine Keep.push' ?_ | refine Keep.set' ?_ ?_ | refine Keep.moved' ?_ ?_ | omega), upto_succ hd (by rw [rowOk, c5']; rfl)⟩
  rw [c5] at es4
  simp (maxSteps := 4000000) (disch := omega) only [Zq, evO, vbox, wr, Zeq, if_true, if_false, Nat.reduceEqDiff, Nat.reduceAdd, Nat.reduceLeDiff, Nat.reduceSub, and_self, and_true, true_and, reduceIte, reduceCtorEq, eq_self, implies_true, forall_const, false_implies, imp_self, decide_true, decide_false, fix_nil, fix_cons, t2, t3, t42, t43, t44, g2, g2r, t53, t54, t55, g3, g3r, slc_idx (r := rRoute) (sz := 2) rfl hr hin, e3, ixs, es4, ln]
  generalize hG4 : (H3.push [.slice none 0 0, .slice none 0 0]).set H3.nxt [vn, vb] = H4
  have k4 : Keep H3 H4 := by rw [← hG4]; repeat' (first | exact Keep.refl _ | assumption | refine Keep.push' ?_ | refine Keep.set' ?_ ?_ | refine Keep.moved' ?_ ?_ | omega)
  have g4 : H4.get H3.nxt = some (.own [vn, vb]) := by rw [← hG4, Zbi, if_pos rfl]
  have n4 : H4.nxt = H3.nxt + 1 := by rw [← hG4, Zbh, Zbg]
  have g4a := (k4.get H.nxt (by omega)).trans g3
  have g4r := (k4.get (H.nxt + 1) (by omega)).trans g3r
  have k04 := k03.trans k4
  clear hG4 es4 es e3
  refine G_forF [2, 3, 7, 8, 53, 54, 55, 67, 68] ((rt routes a).1.length) (fun i T H5 => T 69 = .int .i64 (i : Int) ∧ Keep H4 H5 ∧ ∀ j, j < i → posOk pos (rt routes a).1 j = true) 0 (Nat.zero_le _) ?_ ?_
  · simp (maxSteps := 4000000) (disch := omega) only [Zq, evO, vbox, wr, Zeq, if_true, if_false, Nat.reduceEqDiff, Nat.reduceAdd, Nat.reduceLeDiff, Nat.reduceSub, and_self, and_true, true_and, reduceIte, reduceCtorEq, eq_self, implies_true, forall_const, false_implies, imp_self, decide_true, decide_false, fix_nil, fix_cons, t2, t3, t42, t43, t44, g2, g2r, t53, t54, t55, g3, g3r, g4, g4a, g4r]
    exact ⟨Keep.refl _, fun j hj => by omega⟩
  rintro i T H5 hi2 hT ⟨t69, k5, he⟩
  simp only [fix_nil, fix_cons, Zq, evO, vbox, wr, Zeq, if_true, if_false, Nat.reduceEqDiff, Nat.reduceAdd, Nat.reduceLeDiff, Nat.reduceSub, and_self, and_true, true_and, reduceIte, reduceCtorEq, eq_self, implies_true, forall_const, false_implies, imp_self, decide_true, decide_false, t2, t3, t42, t43, t44, t53, t54, t55] at hT
  obtain ⟨t2, t3, t7, t8, t53, t54, t55, t67, t68⟩ := hT
  have n5 := k5.nxt
  have g5 := (k5.get H3.nxt (by omega)).trans g4
  have g5a := (k5.get H.nxt (by omega)).trans g4a
  have g5r := (k5.get (H.nxt + 1) (by omega)).trans g4r
  have k05 := k04.trans k5
  by_cases hi3 : i < (rt routes a).1.length
  · obtain ⟨e5, _, _⟩ := need_el ((rSlc rNeed).rdk hn (k4.trans k5)) hi3
    have hpt := rtOk_nd hrt hi3
    have hpl : (nd (rt routes a).1 i).1.toNat < pos.length := by omega
    have cst : (nd (rt routes a).1 i).1 = (((nd (rt routes a).1 i).1.toNat : Nat) : Int) := by omega
    have ixp : ∀ H0 : Heap, vidx H0 1 vp (.int .i64 (nd (rt routes a).1 i).1) = some (adr vp (nd (rt routes a).1 i).1.toNat 1 0, H0) := fun H0 => by
      have := slc_idx (r := rInt) (H1 := H0) (sz := 1) (k := .i64) rfl hp hpl
      rwa [← cst] at this
    simp (maxSteps := 4000000) (disch := omega) only [Zq, evO, vbox, wr, Zeq, if_true, if_false, Nat.reduceEqDiff, Nat.reduceAdd, Nat.reduceLeDiff, Nat.reduceSub, and_self, and_true, true_and, reduceIte, reduceCtorEq, eq_self, implies_true, forall_const, false_implies, imp_self, decide_true, decide_false, fix_nil, fix_cons, t2, t3, t42, t43, t44, g2, g2r, t53, t54, t55, g3, g3r, g4, g4a, g4r, t7, t8, t67, t68, t69, g5, g5a, g5r, slc_idx (r := rNeed) (sz := 2) rfl hn hi3, e5]
    generalize hG6 : (H5.push [.int .i64 0, .int .i64 0]).set H5.nxt [.int .i64 (nd (rt routes a).1 i).1, .int .i64 (nd (rt routes a).1 i).2] = H6
    have k6 : Keep H5 H6 := by rw [← hG6]; repeat' (first | exact Keep.refl _ | assumption | refine Keep.push' ?_ | refine Keep.set' ?_ ?_ | refine Keep.moved' ?_ ?_ | omega)
    have g6 : H6.get H5.nxt = some (.own [.int .i64 (nd (rt routes a).1 i).1, .int .i64 (nd (rt routes a).1 i).2]) := by rw [← hG6, Zbi, if_pos rfl]
    have n6 : H6.nxt = H5.nxt + 1 := by rw [← hG6, Zbh, Zbg]
    have g6a := (k6.get H.nxt (by omega)).trans g5a
    have g6r := (k6.get (H.nxt + 1) (by omega)).trans g5r
    have ldp := IntsK.ld ((ints_of hp).keep (k05.trans k6)) hpl
    refine G_calm rfl ?_
    by_cases d1 : pos.getD (nd (rt routes a).1 i).1.toNat 0 = (nd (rt routes a).1 i).2
    · simp (maxSteps := 4000000) (disch := omega) only [Zq, evO, vbox, wr, Zeq, if_true, if_false, Nat.reduceEqDiff, Nat.reduceAdd, Nat.reduceLeDiff, Nat.reduceSub, and_self, and_true, true_and, reduceIte, reduceCtorEq, eq_self, implies_true, forall_const, false_implies, imp_self, decide_true, decide_false, fix_nil, fix_cons, t2, t3, t42, t43, t44, g2, g2r, t53, t54, t55, g3, g3r, g4, g4a, g4r, t7, t8, t67, t68, t69, g5, g5a, g5r, g6, g6a, g6r, ixp, ldp, Zfl d1]
      exact ⟨hi3, k5.trans k6, upto_succ he (by rw [posOk, decide_eq_true d1])⟩
    · simp (maxSteps := 4000000) (disch := omega) only [Zq, evO, vbox, wr, Zeq, if_true, if_false, Nat.reduceEqDiff, Nat.reduceAdd, Nat.reduceLeDiff, Nat.reduceSub, and_self, and_true, true_and, reduceIte, reduceCtorEq, eq_self, implies_true, forall_const, false_implies, imp_self, decide_true, decide_false, fix_nil, fix_cons, t2, t3, t42, t43, t44, g2, g2r, t53, t54, t55, g3, g3r, g4, g4a, g4r, t7, t8, t67, t68, t69, g5, g5a, g5r, g6, g6a, g6r, ixp, ldp, Zfm d1]
      exact ⟨k05.trans k6, bad (row_1 c5 hi3 (by rw [posOk, decide_eq_false d1]))⟩
  obtain rfl : i = (rt routes a).1.length := by omega
  have hN := allTo_iff.2 he
  simp (maxSteps := 4000000) (disch := omega) only [Zq, evO, vbox, wr, Zeq, if_true, if_false, Nat.reduceEqDiff, Nat.reduceAdd, Nat.reduceLeDiff, Nat.reduceSub, and_self, and_true, true_and, reduceIte, reduceCtorEq, eq_self, implies_true, forall_const, false_implies, imp_self, decide_true, decide_false, fix_nil, fix_cons, t2, t3, t42, t43, t44, g2, g2r, t53, t54, t55, g3, g3r, g4, g4a, g4r, t7, t8, t67, t68, t69, g5, g5a, g5r]
  refine G_forF [2, 3, 7, 8, 53, 54, 55] (a) (fun j T H6 => T 11 = .int .i64 (j : Int) ∧ Keep H5 H6 ∧ ∀ k, k < j → agRow set routes a k = true) 0 (Nat.zero_le _) ?_ ?_
  · simp (maxSteps := 4000000) (disch := omega) only [Zq, evO, vbox, wr, Zeq, if_true, if_false, Nat.reduceEqDiff, Nat.reduceAdd, Nat.reduceLeDiff, Nat.reduceSub, and_self, and_true, true_and, reduceIte, reduceCtorEq, eq_self, implies_true, forall_const, false_implies, imp_self, decide_true, decide_false, fix_nil, fix_cons, t2, t3, t42, t43, t44, g2, g2r, t53, t54, t55, g3, g3r, g4, g4a, g4r, t7, t8, t67, t68, t69, g5, g5a, g5r]
    exact ⟨Keep.refl _, fun j hj => by omega⟩
  rintro j T H6 hj hT ⟨t11, k6, hf⟩
  simp only [fix_nil, fix_cons, Zq, evO, vbox, wr, Zeq, if_true, if_false, Nat.reduceEqDiff, Nat.reduceAdd, Nat.reduceLeDiff, Nat.reduceSub, and_self, and_true, true_and, reduceIte, reduceCtorEq, eq_self, implies_true, forall_const, false_implies, imp_self, decide_true, decide_false, t2, t3, t42, t43, t44, t53, t54, t55, t7, t8, t67, t68, t69] at hT
  obtain ⟨t2, t3, t7, t8, t53, t54, t55⟩ := hT
  have n6 := k6.nxt
  have g6 := (k6.get H3.nxt (by omega)).trans g5
  have g6a := (k6.get H.nxt (by omega)).trans g5a
  have g6r := (k6.get (H.nxt + 1) (by omega)).trans g5r
  have k06 := k05.trans k6
  by_cases hja : j < a
  · have hjr : j < routes.length := by omega
    have hjs : j < set.length := by omega
    have es := bool_el ((rSlc rBool).rdk hs k06) hjs
    have ixs := fun H0 : Heap => slc_idx (r := rBool) (H1 := H0) (sz := 1) (i := j) (k := .i64) rfl hs hjs
    obtain ⟨wn, wb, e7, _, _, hwn, hwb⟩ := route_el ((rSlc rRoute).rdk hr k06) hjr
    obtain ⟨q1, q2⟩ := rt_tot m3 hjr
    by_cases c6 : set.getD j false = true
    rotate_left
    · have c6' : set.getD j false = false := by simpa using c6
      rw [c6'] at es
      simp (maxSteps := 4000000) (disch := omega) only [Zq, evO, vbox, wr, Zeq, if_true, if_false, Nat.reduceEqDiff, Nat.reduceAdd, Nat.reduceLeDiff, Nat.reduceSub, and_self, and_true, true_and, reduceIte, reduceCtorEq, eq_self, implies_true, forall_const, false_implies, imp_self, decide_true, decide_false, fix_nil, fix_cons, t2, t3, t42, t43, t44, g2, g2r, t53, t54, t55, g3, g3r, g4, g4a, g4r, t7, t8, t67, t68, t69, g5, g5a, g5r, t11, g6, g6a, g6r]
      refine G_tame rfl ?_
      simp (maxSteps := 4000000) (disch := omega) only [Zq, evO, vbox, wr, Zeq, if_true, if_false, Nat.reduceEqDiff, Nat.reduceAdd, Nat.reduceLeDiff, Nat.reduceSub, and_self, and_true, true_and, reduceIte, reduceCtorEq, eq_self, implies_true, forall_const, false_implies, imp_self, decide_true, decide_false, fix_nil, fix_cons, t2, t3, t42, t43, t44, g2, g2r, t53, t54, t55, g3, g3r, g4, g4a, g4r, t7, t8, t67, t68, t69, g5, g5a, g5r, t11, g6, g6a, g6r, ixs, es]
      exact ⟨hja, k6, upto_succ hf (by rw [agRow, c6']; rfl)⟩
    rw [c6] at es
    simp (maxSteps := 4000000) (disch := omega) only [Zq, evO, vbox, wr, Zeq, if_true, if_false, Nat.reduceEqDiff, Nat.reduceAdd, Nat.reduceLeDiff, Nat.reduceSub, and_self, and_true, true_and, reduceIte, reduceCtorEq, eq_self, implies_true, forall_const, false_implies, imp_self, decide_true, decide_false, fix_nil, fix_cons, t2, t3, t42, t43, t44, g2, g2r, t53, t54, t55, g3, g3r, g4, g4a, g4r, t7, t8, t67, t68, t69, g5, g5a, g5r, t11, g6, g6a, g6r]
    refine G_tame rfl ?_
    simp (maxSteps := 4000000) (disch := omega) only [Zq, evO, vbox, wr, Zeq, if_true, if_false, Nat.reduceEqDiff, Nat.reduceAdd, Nat.reduceLeDiff, Nat.reduceSub, and_self, and_true, true_and, reduceIte, reduceCtorEq, eq_self, implies_true, forall_const, false_implies, imp_self, decide_true, decide_false, fix_nil, fix_cons, t2, t3, t42, t43, t44, g2, g2r, t53, t54, t55, g3, g3r, g4, g4a, g4r, t7, t8, t67, t68, t69, g5, g5a, g5r, t11, g6, g6a, g6r, ixs, es, slc_idx (r := rRoute) (sz := 2) rfl hr hjr, e7]
    have k46 := k4.trans (k5.trans k6)
    refine GO_call ((r_impl_against (a := rt routes a) (b := rt routes j) ((rSlc rNeed).rdk hn k46) ((rSlc rInt).rdk hbb k46) hwn hwb r1 r2 q1 q2).mono ?_)
    rintro _ H7 ⟨k7, rfl⟩
    have n7 := k7.nxt
    by_cases d1 : agNo (rt routes a) (rt routes j) = true
    · simp (maxSteps := 4000000) (disch := omega) only [Zq, evO, vbox, wr, Zeq, if_true, if_false, Nat.reduceEqDiff, Nat.reduceAdd, Nat.reduceLeDiff, Nat.reduceSub, and_self, and_true, true_and, reduceIte, reduceCtorEq, eq_self, implies_true, forall_const, false_implies, imp_self, decide_true, decide_false, fix_nil, fix_cons, t2, t3, t42, t43, t44, g2, g2r, t53, t54, t55, g3, g3r, g4, g4a, g4r, t7, t8, t67, t68, t69, g5, g5a, g5r, t11, g6, g6a, g6r, d1]
      exact ⟨hja, k6.trans k7, upto_succ hf (by rw [agRow, d1]; simp)⟩
    · have d1' : agNo (rt routes a) (rt routes j) = false := by simpa using d1
      simp (maxSteps := 4000000) (disch := omega) only [Zq, evO, vbox, wr, Zeq, if_true, if_false, Nat.reduceEqDiff, Nat.reduceAdd, Nat.reduceLeDiff, Nat.reduceSub, and_self, and_true, true_and, reduceIte, reduceCtorEq, eq_self, implies_true, forall_const, false_implies, imp_self, decide_true, decide_false, fix_nil, fix_cons, t2, t3, t42, t43, t44, g2, g2r, t53, t54, t55, g3, g3r, g4, g4a, g4r, t7, t8, t67, t68, t69, g5, g5a, g5r, t11, g6, g6a, g6r, d1']
      exact ⟨k06.trans k7, bad (row_2 c5 hja (by rw [agRow, c6, d1']; rfl))⟩
  obtain rfl : j = a := by omega
  simp (maxSteps := 4000000) (disch := omega) only [Zq, evO, vbox, wr, Zeq, if_true, if_false, Nat.reduceEqDiff, Nat.reduceAdd, Nat.reduceLeDiff, Nat.reduceSub, and_self, and_true, true_and, reduceIte, reduceCtorEq, eq_self, implies_true, forall_const, false_implies, imp_self, decide_true, decide_false, fix_nil, fix_cons, t2, t3, t42, t43, t44, g2, g2r, t53, t54, t55, g3, g3r, g4, g4a, g4r, t7, t8, t67, t68, t69, g5, g5a, g5r, t11, g6, g6a, g6r]
  exact ⟨hin, k3.trans (k4.trans (k5.trans k6)), upto_succ hd (by rw [rowOk, hN, allTo_iff.2 hf]; simp)⟩
end
end Go.Proofs.Ythjphddodooahaa.AX
