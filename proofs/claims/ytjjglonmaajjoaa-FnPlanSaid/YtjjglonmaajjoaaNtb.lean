/- Names and trips that are right: the program's tests and the reference's. No condition beyond each law's own; of the program: the functions' forms. -/
import Derived.Test.YtjjglonmaajjoaaNta
namespace Go.Proofs.Ytjjglonmaajjoaa.AX
open Go
set_option maxRecDepth 10000
set_option maxHeartbeats 4000000
set_option linter.unusedSimpArgs false
set_option linter.unusedVariables false
def chOk (z : Int) : Bool := inR 97 122 z || inR 48 57 z
def nmOk (s : ByteArray) : Bool := inR 1 12 s.size && allTo s.size (fun i => chOk (bt s i))
theorem nm_bad {s : ByteArray} {i : Nat} (hi : i < s.size) (h : chOk (bt s i) = false) : nmOk s = false := by
  rw [nmOk, allTo_bad hi h, Bool.and_false]
theorem chOk_f {z : Int} (h1 : ¬ (97 ≤ z ∧ z ≤ 122)) (h2 : ¬ (48 ≤ z ∧ z ≤ 57)) : chOk z = false := by rw [chOk, inR_f h1, inR_f h2]; rfl
theorem chOk_t {z : Int} (h : (97 ≤ z ∧ z ≤ 122) ∨ (48 ≤ z ∧ z ≤ 57)) : chOk z = true := by
  rcases h with h | h
  · rw [chOk, inR_t h]; rfl
  · rw [chOk, inR_t h, Bool.or_true]
theorem ch_cases (z : Int) : (97 ≤ z ∧ z ≤ 122) ∨ (48 ≤ z ∧ z ≤ 57) ∨ 122 < z ∨ z < 48 ∨ (57 < z ∧ z < 97) := by omega
section
variable {H : Heap} {s : ByteArray}
theorem r_impl_nameOk (hs : s.size ≤ 1048576) : Run Try.prog 124 [.string s] H fun r H' => Keep H H' ∧ r = .bool (nmOk s) := by
  by_cases c0 : 1 ≤ s.size
  rotate_left
  · refine Run.intro c124 rfl ?_
    simp (maxSteps := 4000000) (disch := omega) only [Zq, evO, vbox, wr, Zeq, if_true, if_false, Nat.reduceEqDiff, Nat.reduceAdd, Nat.reduceLeDiff, Nat.reduceSub, and_self, and_true, true_and, reduceIte, reduceCtorEq, eq_self, implies_true, forall_const, false_implies, imp_self, decide_true, decide_false, x124, vlenS_str]
    exact ⟨Keep.refl _, by rw [nmOk, inR_f (by omega)]; rfl⟩
  by_cases c1 : s.size ≤ 12
  rotate_left
  · refine Run.intro c124 rfl ?_
    simp (maxSteps := 4000000) (disch := omega) only [Zq, evO, vbox, wr, Zeq, if_true, if_false, Nat.reduceEqDiff, Nat.reduceAdd, Nat.reduceLeDiff, Nat.reduceSub, and_self, and_true, true_and, reduceIte, reduceCtorEq, eq_self, implies_true, forall_const, false_implies, imp_self, decide_true, decide_false, x124, vlenS_str]
    exact ⟨Keep.refl _, by rw [nmOk, inR_f (by omega)]; rfl⟩
  refine Run.intro c124 rfl ?_
  simp (maxSteps := 4000000) (disch := omega) only [Zq, evO, vbox, wr, Zeq, if_true, if_false, Nat.reduceEqDiff, Nat.reduceAdd, Nat.reduceLeDiff, Nat.reduceSub, and_self, and_true, true_and, reduceIte, reduceCtorEq, eq_self, implies_true, forall_const, false_implies, imp_self, decide_true, decide_false, x124, vlenS_str]
  refine G_forF [0] (s.size) (fun i T H1 => T 3 = .int .i64 (i : Int) ∧ H1 = H ∧ ∀ j, j < i → chOk (bt s j) = true) 0 (Nat.zero_le _) ?_ ?_
  · simp (maxSteps := 4000000) (disch := omega) only [Zq, evO, vbox, wr, Zeq, if_true, if_false, Nat.reduceEqDiff, Nat.reduceAdd, Nat.reduceLeDiff, Nat.reduceSub, and_self, and_true, true_and, reduceIte, reduceCtorEq, eq_self, implies_true, forall_const, false_implies, imp_self, decide_true, decide_false, fix_nil, fix_cons]
    exact fun j hj => by omega
  rintro i T H1 hi hT ⟨t3, h1, ha⟩
  simp only [fix_nil, fix_cons, Zq, evO, vbox, wr, Zeq, if_true, if_false, Nat.reduceEqDiff, Nat.reduceAdd, Nat.reduceLeDiff, Nat.reduceSub, and_self, and_true, true_and, reduceIte, reduceCtorEq, eq_self, implies_true, forall_const, false_implies, imp_self, decide_true, decide_false] at hT
  have t0 := hT
  subst h1
  by_cases hin : i < s.size
  rotate_left
  · obtain rfl : i = s.size := by omega
    simp (maxSteps := 4000000) (disch := omega) only [Zq, evO, vbox, wr, Zeq, if_true, if_false, Nat.reduceEqDiff, Nat.reduceAdd, Nat.reduceLeDiff, Nat.reduceSub, and_self, and_true, true_and, reduceIte, reduceCtorEq, eq_self, implies_true, forall_const, false_implies, imp_self, decide_true, decide_false, fix_nil, fix_cons, t0, t3, vlenS_str]
    exact ⟨Keep.refl _, by rw [nmOk, inR_t (by omega), allTo_iff.2 ha]; rfl⟩
  have ix := fun H0 : Heap => vsidx_nat (H := H0) (k := .i64) hin
  generalize hz : bt s i = z at ix
  have good : chOk z = true → ∀ j, j < i + 1 → chOk (bt s j) = true := fun h => upto_succ ha (by rw [hz]; exact h)
  have bad : chOk z = false → nmOk s = false := fun h => nm_bad hin (by rw [hz]; exact h)
  rcases ch_cases z with h | h | h | h | h
  · simp (maxSteps := 4000000) (disch := omega) only [Zq, evO, vbox, wr, Zeq, if_true, if_false, Nat.reduceEqDiff, Nat.reduceAdd, Nat.reduceLeDiff, Nat.reduceSub, and_self, and_true, true_and, reduceIte, reduceCtorEq, eq_self, implies_true, forall_const, false_implies, imp_self, decide_true, decide_false, fix_nil, fix_cons, t0, t3, vlenS_str, GO_sidx, ix]
    exact ⟨hin, good (chOk_t (.inl h))⟩
  · simp (maxSteps := 4000000) (disch := omega) only [Zq, evO, vbox, wr, Zeq, if_true, if_false, Nat.reduceEqDiff, Nat.reduceAdd, Nat.reduceLeDiff, Nat.reduceSub, and_self, and_true, true_and, reduceIte, reduceCtorEq, eq_self, implies_true, forall_const, false_implies, imp_self, decide_true, decide_false, fix_nil, fix_cons, t0, t3, vlenS_str, GO_sidx, ix]
    exact ⟨hin, good (chOk_t (.inr h))⟩
  all_goals
    simp (maxSteps := 4000000) (disch := omega) only [Zq, evO, vbox, wr, Zeq, if_true, if_false, Nat.reduceEqDiff, Nat.reduceAdd, Nat.reduceLeDiff, Nat.reduceSub, and_self, and_true, true_and, reduceIte, reduceCtorEq, eq_self, implies_true, forall_const, false_implies, imp_self, decide_true, decide_false, fix_nil, fix_cons, t0, t3, vlenS_str, GO_sidx, ix]
    exact ⟨Keep.refl _, by rw [bad (chOk_f (by omega) (by omega))]⟩
theorem r_spec_l01Name (hs : s.size ≤ 1048576) : Run Try.prog 121 [.string s] H fun r H' => Keep H H' ∧ r = .bool (nmOk s) := by
  refine Run.intro c121 rfl ?_
  simp (maxSteps := 4000000) (disch := omega) only [Zq, evO, vbox, wr, Zeq, if_true, if_false, Nat.reduceEqDiff, Nat.reduceAdd, Nat.reduceLeDiff, Nat.reduceSub, and_self, and_true, true_and, reduceIte, reduceCtorEq, eq_self, implies_true, forall_const, false_implies, imp_self, decide_true, decide_false, x121, vlenS_str]
  refine G_forF [0] (s.size) (fun i T H1 => T 3 = .int .i64 (i : Int) ∧ H1 = H ∧ ∀ j, j < i → chOk (bt s j) = true) 0 (Nat.zero_le _) ?_ ?_
  · simp (maxSteps := 4000000) (disch := omega) only [Zq, evO, vbox, wr, Zeq, if_true, if_false, Nat.reduceEqDiff, Nat.reduceAdd, Nat.reduceLeDiff, Nat.reduceSub, and_self, and_true, true_and, reduceIte, reduceCtorEq, eq_self, implies_true, forall_const, false_implies, imp_self, decide_true, decide_false, fix_nil, fix_cons]
    exact fun j hj => by omega
  rintro i T H1 hi hT ⟨t3, h1, ha⟩
  simp only [fix_nil, fix_cons, Zq, evO, vbox, wr, Zeq, if_true, if_false, Nat.reduceEqDiff, Nat.reduceAdd, Nat.reduceLeDiff, Nat.reduceSub, and_self, and_true, true_and, reduceIte, reduceCtorEq, eq_self, implies_true, forall_const, false_implies, imp_self, decide_true, decide_false] at hT
  have t0 := hT
  subst h1
  by_cases hin : i < s.size
  rotate_left
  · obtain rfl : i = s.size := by omega
    simp (maxSteps := 4000000) (disch := omega) only [Zq, evO, vbox, wr, Zeq, if_true, if_false, Nat.reduceEqDiff, Nat.reduceAdd, Nat.reduceLeDiff, Nat.reduceSub, and_self, and_true, true_and, reduceIte, reduceCtorEq, eq_self, implies_true, forall_const, false_implies, imp_self, decide_true, decide_false, fix_nil, fix_cons, t0, t3, vlenS_str]
    refine GO_call ((r_spec_l01In (s.size : Int) 1 12 _).mono ?_)
    rintro _ H1 ⟨k1, rfl⟩
    have n1 := k1.nxt
    simp (maxSteps := 4000000) (disch := omega) only [Zq, evO, vbox, wr, Zeq, if_true, if_false, Nat.reduceEqDiff, Nat.reduceAdd, Nat.reduceLeDiff, Nat.reduceSub, and_self, and_true, true_and, reduceIte, reduceCtorEq, eq_self, implies_true, forall_const, false_implies, imp_self, decide_true, decide_false, fix_nil, fix_cons, t0, t3]
    exact ⟨k1, by rw [nmOk, allTo_iff.2 ha, Bool.and_true]⟩
  have ix := fun H0 : Heap => vsidx_nat (H := H0) (k := .i64) hin
  generalize hz : bt s i = z at ix
  have good : chOk z = true → ∀ j, j < i + 1 → chOk (bt s j) = true := fun h => upto_succ ha (by rw [hz]; exact h)
  have bad : chOk z = false → nmOk s = false := fun h => nm_bad hin (by rw [hz]; exact h)
  rcases ch_cases z with h | h | h | h | h
  · simp (maxSteps := 4000000) (disch := omega) only [Zq, evO, vbox, wr, Zeq, if_true, if_false, Nat.reduceEqDiff, Nat.reduceAdd, Nat.reduceLeDiff, Nat.reduceSub, and_self, and_true, true_and, reduceIte, reduceCtorEq, eq_self, implies_true, forall_const, false_implies, imp_self, decide_true, decide_false, fix_nil, fix_cons, t0, t3, vlenS_str, GO_sidx, ix]
    exact ⟨hin, good (chOk_t (.inl h))⟩
  · simp (maxSteps := 4000000) (disch := omega) only [Zq, evO, vbox, wr, Zeq, if_true, if_false, Nat.reduceEqDiff, Nat.reduceAdd, Nat.reduceLeDiff, Nat.reduceSub, and_self, and_true, true_and, reduceIte, reduceCtorEq, eq_self, implies_true, forall_const, false_implies, imp_self, decide_true, decide_false, fix_nil, fix_cons, t0, t3, vlenS_str, GO_sidx, ix]
    exact ⟨hin, good (chOk_t (.inr h))⟩
  all_goals
    simp (maxSteps := 4000000) (disch := omega) only [Zq, evO, vbox, wr, Zeq, if_true, if_false, Nat.reduceEqDiff, Nat.reduceAdd, Nat.reduceLeDiff, Nat.reduceSub, and_self, and_true, true_and, reduceIte, reduceCtorEq, eq_self, implies_true, forall_const, false_implies, imp_self, decide_true, decide_false, fix_nil, fix_cons, t0, t3, vlenS_str, GO_sidx, ix]
    exact ⟨Keep.refl _, by rw [bad (chOk_f (by omega) (by omega))]⟩
end
/-! ### Trips -/
def clB (l : List Cl) (i : Nat) : Bool := decide ((cl l i).2.1 ≤ (cl l (i - 1)).2.2) || decide ((cl l i).1 = (cl l (i - 1)).1)
def clOk (l : List Cl) (i : Nat) : Bool := inR 0 29 (cl l i).1 && (inR 0 100000 (cl l i).2.2 && (inR 0 (cl l i).2.2 (cl l i).2.1 && !(decide (0 < i) && clB l i)))
def tpOk (t : Tp) : Bool := nmOk t.1 && (inR 2 12 t.2.length && allTo t.2.length (clOk t.2))
theorem tpOk_bad {t : Tp} {i : Nat} (hi : i < t.2.length) (h : clOk t.2 i = false) : tpOk t = false := by
  rw [tpOk, allTo_bad hi h, Bool.and_false, Bool.and_false]
section
variable {H : Heap} {v : Value} {t : Tp}
theorem r_impl_TripOk (hc : (rSlc rCall).rd H [v] t.2) (hs : t.1.size ≤ 1048576) (hl : t.2.length ≤ 1048576) : Run Try.prog 118 [.agg #[.string t.1, v]] H fun r H' => Keep H H' ∧ r = .bool (tpOk t) := by
  have lv : ∀ H : Heap, vlen H v = some (.int .i64 t.2.length, H) := fun _ => slc_len hc
  refine Run.intro c118 rfl ?_
  simp (maxSteps := 4000000) (disch := omega) only [Zq, evO, vbox, wr, Zeq, if_true, if_false, Nat.reduceEqDiff, Nat.reduceAdd, Nat.reduceLeDiff, Nat.reduceSub, and_self, and_true, true_and, reduceIte, reduceCtorEq, eq_self, implies_true, forall_const, false_implies, imp_self, decide_true, decide_false, x118]
  generalize hG0 : H.push [.string t.1, v] = H0
  have k0 : Keep H H0 := by rw [← hG0]; exact Keep.push _ _
  have g0 : H0.get H.nxt = some (.own [.string t.1, v]) := by rw [← hG0, push_get', if_pos rfl]
  have n0 : H0.nxt = H.nxt + 1 := by rw [← hG0, Zbg]
  refine GO_call ((r_impl_nameOk hs).mono ?_)
  rintro _ H1 ⟨k1, rfl⟩
  have n1 := k1.nxt
  have g1 := (k1.get (H.nxt) (by omega)).trans g0
  have k01 := k0.trans k1
  cases c0 : nmOk t.1 with
  | false =>
    simp (maxSteps := 4000000) (disch := omega) only [Zq, evO, vbox, wr, Zeq, if_true, if_false, Nat.reduceEqDiff, Nat.reduceAdd, Nat.reduceLeDiff, Nat.reduceSub, and_self, and_true, true_and, reduceIte, reduceCtorEq, eq_self, implies_true, forall_const, false_implies, imp_self, decide_true, decide_false, fix_nil, fix_cons, g0, g1, c0]
    exact ⟨k01, by rw [tpOk, c0]; rfl⟩
  | true =>
  simp (maxSteps := 4000000) (disch := omega) only [Zq, evO, vbox, wr, Zeq, if_true, if_false, Nat.reduceEqDiff, Nat.reduceAdd, Nat.reduceLeDiff, Nat.reduceSub, and_self, and_true, true_and, reduceIte, reduceCtorEq, eq_self, implies_true, forall_const, false_implies, imp_self, decide_true, decide_false, fix_nil, fix_cons, g0, g1, c0, lv]
  refine GO_call ((r_impl_between (t.2.length : Int) 2 12 _).mono ?_)
  rintro _ H2 ⟨k2, rfl⟩
  have n2 := k2.nxt
  have g2 := (k2.get (H.nxt) (by omega)).trans g1
  have k02 := k01.trans k2
  cases c1 : inR 2 12 t.2.length with
  | false =>
    simp (maxSteps := 4000000) (disch := omega) only [Zq, evO, vbox, wr, Zeq, if_true, if_false, Nat.reduceEqDiff, Nat.reduceAdd, Nat.reduceLeDiff, Nat.reduceSub, and_self, and_true, true_and, reduceIte, reduceCtorEq, eq_self, implies_true, forall_const, false_implies, imp_self, decide_true, decide_false, fix_nil, fix_cons, g0, g1, g2, c1]
    exact ⟨k02, by rw [tpOk, c0, c1]; rfl⟩
  | true =>
  have l12 := inR_iff.1 c1
  simp (maxSteps := 4000000) (disch := omega) only [Zq, evO, vbox, wr, Zeq, if_true, if_false, Nat.reduceEqDiff, Nat.reduceAdd, Nat.reduceLeDiff, Nat.reduceSub, and_self, and_true, true_and, reduceIte, reduceCtorEq, eq_self, implies_true, forall_const, false_implies, imp_self, decide_true, decide_false, fix_nil, fix_cons, g0, g1, g2, c1, lv]
  refine G_forF [1, 17, 18] (t.2.length) (fun i T H3 => T 19 = .int .i64 (i : Int) ∧ Keep H2 H3 ∧ ∀ j, j < i → clOk t.2 j = true) 0 (Nat.zero_le _) ?_ ?_
  · simp (maxSteps := 4000000) (disch := omega) only [Zq, evO, vbox, wr, Zeq, if_true, if_false, Nat.reduceEqDiff, Nat.reduceAdd, Nat.reduceLeDiff, Nat.reduceSub, and_self, and_true, true_and, reduceIte, reduceCtorEq, eq_self, implies_true, forall_const, false_implies, imp_self, decide_true, decide_false, fix_nil, fix_cons, g0, g1, g2]
    exact ⟨Keep.refl _, fun j hj => by omega⟩
  rintro i T H3 hi hT ⟨t19, k3, ha⟩
  simp only [fix_nil, fix_cons, Zq, evO, vbox, wr, Zeq, if_true, if_false, Nat.reduceEqDiff, Nat.reduceAdd, Nat.reduceLeDiff, Nat.reduceSub, and_self, and_true, true_and, reduceIte, reduceCtorEq, eq_self, implies_true, forall_const, false_implies, imp_self, decide_true, decide_false] at hT
  obtain ⟨t1, t17, t18⟩ := hT
  have n3 := k3.nxt
  have g3 := (k3.get H.nxt (by omega)).trans g2
  have k03 := k02.trans k3
  by_cases hin : i < t.2.length
  rotate_left
  · obtain rfl : i = t.2.length := by omega
    simp (maxSteps := 4000000) (disch := omega) only [Zq, evO, vbox, wr, Zeq, if_true, if_false, Nat.reduceEqDiff, Nat.reduceAdd, Nat.reduceLeDiff, Nat.reduceSub, and_self, and_true, true_and, reduceIte, reduceCtorEq, eq_self, implies_true, forall_const, false_implies, imp_self, decide_true, decide_false, fix_nil, fix_cons, g0, g1, g2, t1, t17, t18, t19, g3]
    exact ⟨k03, by rw [tpOk, c0, c1, allTo_iff.2 ha]; rfl⟩
  have ixe := fun H0 : Heap => slc_idx (r := rCall) (H1 := H0) (sz := 3) (i := i) (k := .i64) rfl hc hin
  have e1 := (call_el ((rSlc rCall).rdk hc k03) hin).1
  generalize hx : cl t.2 i = x at e1
  simp (maxSteps := 4000000) (disch := omega) only [Zq, evO, vbox, wr, Zeq, if_true, if_false, Nat.reduceEqDiff, Nat.reduceAdd, Nat.reduceLeDiff, Nat.reduceSub, and_self, and_true, true_and, reduceIte, reduceCtorEq, eq_self, implies_true, forall_const, false_implies, imp_self, decide_true, decide_false, fix_nil, fix_cons, g0, g1, g2, t1, t17, t18, t19, g3, ixe, e1]
  generalize hG4 : (H3.push [.int .i64 0, .int .i64 0, .int .i64 0]).set H3.nxt [.int .i64 x.1, .int .i64 x.2.1, .int .i64 x.2.2] = H4
  have k4 : Keep H3 H4 := by rw [← hG4]; repeat' (first | exact Keep.refl _ | assumption | refine Keep.push' ?_ | refine Keep.set' ?_ ?_ | refine Keep.moved' ?_ ?_ | omega)
  have g4 : H4.get H3.nxt = some (.own [.int .i64 x.1, .int .i64 x.2.1, .int .i64 x.2.2]) := by rw [← hG4, Zbi, if_pos rfl]
  have n4 : H4.nxt = H3.nxt + 1 := by rw [← hG4, Zbh, Zbg]
  have g4n := (k4.get H.nxt (by omega)).trans g3
  have bad : ∀ {b : Bool}, clOk t.2 i = b → b = false → tpOk t = false := fun h e => tpOk_bad hin (h.trans e)
  have hcl : clOk t.2 i = (inR 0 29 x.1 && (inR 0 100000 x.2.2 && (inR 0 x.2.2 x.2.1 && !(decide (0 < i) && clB t.2 i)))) := by rw [clOk, hx]
  refine GO_call ((r_impl_between x.1 0 29 _).mono ?_)
  rintro _ H5 ⟨k5, rfl⟩
  have n5 := k5.nxt
  have g5 := (k5.get (H3.nxt) (by omega)).trans g4
  have g5n := (k5.get (H.nxt) (by omega)).trans g4n
  have k35 := k4.trans k5
  have k05 := k03.trans k35
  cases c2 : inR 0 29 x.1 with
  | false =>
    simp (maxSteps := 4000000) (disch := omega) only [Zq, evO, vbox, wr, Zeq, if_true, if_false, Nat.reduceEqDiff, Nat.reduceAdd, Nat.reduceLeDiff, Nat.reduceSub, and_self, and_true, true_and, reduceIte, reduceCtorEq, eq_self, implies_true, forall_const, false_implies, imp_self, decide_true, decide_false, fix_nil, fix_cons, g0, g1, g2, t1, t17, t18, t19, g3, g4, g4n, g5, g5n, c2]
    exact ⟨k05, by rw [bad hcl (by rw [c2]; rfl)]⟩
  | true =>
  simp (maxSteps := 4000000) (disch := omega) only [Zq, evO, vbox, wr, Zeq, if_true, if_false, Nat.reduceEqDiff, Nat.reduceAdd, Nat.reduceLeDiff, Nat.reduceSub, and_self, and_true, true_and, reduceIte, reduceCtorEq, eq_self, implies_true, forall_const, false_implies, imp_self, decide_true, decide_false, fix_nil, fix_cons, g0, g1, g2, t1, t17, t18, t19, g3, g4, g4n, g5, g5n, c2]
  refine GO_call ((r_impl_isMinute x.2.1 _).mono ?_)
  rintro _ H6 ⟨k6, rfl⟩
  have n6 := k6.nxt
  have g6 := (k6.get (H3.nxt) (by omega)).trans g5
  have g6n := (k6.get (H.nxt) (by omega)).trans g5n
  have k06 := k05.trans k6
  cases c3 : inR 0 100000 x.2.1 with
  | false =>
    simp (maxSteps := 4000000) (disch := omega) only [Zq, evO, vbox, wr, Zeq, if_true, if_false, Nat.reduceEqDiff, Nat.reduceAdd, Nat.reduceLeDiff, Nat.reduceSub, and_self, and_true, true_and, reduceIte, reduceCtorEq, eq_self, implies_true, forall_const, false_implies, imp_self, decide_true, decide_false, fix_nil, fix_cons, g0, g1, g2, t1, t17, t18, t19, g3, g4, g4n, g5, g5n, g6, g6n, c3]
    have : inR 0 100000 x.2.2 = false ∨ inR 0 x.2.2 x.2.1 = false := by
      by_cases h : inR 0 100000 x.2.2 = true
      · refine .inr (inR_f (fun h2 => ?_))
        have := inR_iff.1 h
        rw [inR_t (by omega)] at c3
        cases c3
      · exact .inl (by simpa using h)
    exact ⟨k06, by rw [bad hcl (by rcases this with h | h <;> rw [h] <;> simp)]⟩
  | true =>
  simp (maxSteps := 4000000) (disch := omega) only [Zq, evO, vbox, wr, Zeq, if_true, if_false, Nat.reduceEqDiff, Nat.reduceAdd, Nat.reduceLeDiff, Nat.reduceSub, and_self, and_true, true_and, reduceIte, reduceCtorEq, eq_self, implies_true, forall_const, false_implies, imp_self, decide_true, decide_false, fix_nil, fix_cons, g0, g1, g2, t1, t17, t18, t19, g3, g4, g4n, g5, g5n, g6, g6n, c3]
  refine GO_call ((r_impl_isMinute x.2.2 _).mono ?_)
  rintro _ H7 ⟨k7, rfl⟩
  have n7 := k7.nxt
  have g7 := (k7.get (H3.nxt) (by omega)).trans g6
  have g7n := (k7.get (H.nxt) (by omega)).trans g6n
  have k07 := k06.trans k7
  cases c4 : inR 0 100000 x.2.2 with
  | false =>
    simp (maxSteps := 4000000) (disch := omega) only [Zq, evO, vbox, wr, Zeq, if_true, if_false, Nat.reduceEqDiff, Nat.reduceAdd, Nat.reduceLeDiff, Nat.reduceSub, and_self, and_true, true_and, reduceIte, reduceCtorEq, eq_self, implies_true, forall_const, false_implies, imp_self, decide_true, decide_false, fix_nil, fix_cons, g0, g1, g2, t1, t17, t18, t19, g3, g4, g4n, g5, g5n, g6, g6n, g7, g7n, c4]
    exact ⟨k07, by rw [bad hcl (by rw [c4]; simp)]⟩
  | true =>
  by_cases c5 : x.2.1 ≤ x.2.2
  rotate_left
  · simp (maxSteps := 4000000) (disch := omega) only [Zq, evO, vbox, wr, Zeq, if_true, if_false, Nat.reduceEqDiff, Nat.reduceAdd, Nat.reduceLeDiff, Nat.reduceSub, and_self, and_true, true_and, reduceIte, reduceCtorEq, eq_self, implies_true, forall_const, false_implies, imp_self, decide_true, decide_false, fix_nil, fix_cons, g0, g1, g2, t1, t17, t18, t19, g3, g4, g4n, g5, g5n, g6, g6n, g7, g7n, c4, Zfh (show x.2.2 < x.2.1 by omega)]
    exact ⟨k07, by rw [bad hcl (by rw [inR_f (a := 0) (b := x.2.2) (fun h => c5 h.2)]; simp)]⟩
  have b3 := inR_iff.1 c3
  have c6 : inR 0 x.2.2 x.2.1 = true := inR_t ⟨b3.1, c5⟩
  simp (maxSteps := 4000000) (disch := omega) only [Zq, evO, vbox, wr, Zeq, if_true, if_false, Nat.reduceEqDiff, Nat.reduceAdd, Nat.reduceLeDiff, Nat.reduceSub, and_self, and_true, true_and, reduceIte, reduceCtorEq, eq_self, implies_true, forall_const, false_implies, imp_self, decide_true, decide_false, fix_nil, fix_cons, g0, g1, g2, t1, t17, t18, t19, g3, g4, g4n, g5, g5n, g6, g6n, g7, g7n, c4, Zfi (show ¬ x.2.2 < x.2.1 by omega)]
  refine G_calm rfl ?_
  have fin : Keep H2 H7 := k3.trans (k35.trans (k6.trans k7))
  by_cases i0 : 0 < i
  rotate_left
  · simp (maxSteps := 4000000) (disch := omega) only [Zq, evO, vbox, wr, Zeq, if_true, if_false, Nat.reduceEqDiff, Nat.reduceAdd, Nat.reduceLeDiff, Nat.reduceSub, and_self, and_true, true_and, reduceIte, reduceCtorEq, eq_self, implies_true, forall_const, false_implies, imp_self, decide_true, decide_false, fix_nil, fix_cons, g0, g1, g2, t1, t17, t18, t19, g3, g4, g4n, g5, g5n, g6, g6n, g7, g7n, Zfi (show ¬ (0 : Int) < (i : Int) by omega)]
    exact ⟨hin, fin, upto_succ ha (by rw [hcl, c2, c4, c6, decide_eq_false i0]; rfl)⟩
  have hwp := wrap_pred i0 (show i < 4611686018427387904 by omega)
  have ixp := fun H0 : Heap => slc_idx (r := rCall) (H1 := H0) (sz := 3) (i := i - 1) (k := .i64) rfl hc (by omega)
  have fxp := fun (H0 : Heap) (o off : Nat) => slc_fad (r := rCall) (H1 := H0) (sz := 3) (i := i - 1) (o := o) (off := off) rfl hc (by omega)
  obtain ⟨_, e2, _, e3⟩ := call_el (i := i - 1) ((rSlc rCall).rdk hc k07) (by omega)
  have hd : decide (0 < i) = true := decide_eq_true i0
  have hb : clB t.2 i = (decide (x.2.1 ≤ (cl t.2 (i - 1)).2.2) || decide (x.1 = (cl t.2 (i - 1)).1)) := by rw [clB, hx]
  by_cases c7 : x.2.1 ≤ (cl t.2 (i - 1)).2.2
  · simp (maxSteps := 4000000) (disch := omega) only [Zq, evO, vbox, wr, Zeq, if_true, if_false, Nat.reduceEqDiff, Nat.reduceAdd, Nat.reduceLeDiff, Nat.reduceSub, and_self, and_true, true_and, reduceIte, reduceCtorEq, eq_self, implies_true, forall_const, false_implies, imp_self, decide_true, decide_false, fix_nil, fix_cons, g0, g1, g2, t1, t17, t18, t19, g3, g4, g4n, g5, g5n, g6, g6n, g7, g7n, hwp, ixp, fxp, e3, Zfj c7, Zfh (show (0 : Int) < (i : Int) by omega)]
    exact ⟨k07, by rw [bad hcl (by rw [hb, hd, decide_eq_true c7]; simp)]⟩
  by_cases c8 : x.1 = (cl t.2 (i - 1)).1
  · simp (maxSteps := 4000000) (disch := omega) only [Zq, evO, vbox, wr, Zeq, if_true, if_false, Nat.reduceEqDiff, Nat.reduceAdd, Nat.reduceLeDiff, Nat.reduceSub, and_self, and_true, true_and, reduceIte, reduceCtorEq, eq_self, implies_true, forall_const, false_implies, imp_self, decide_true, decide_false, fix_nil, fix_cons, g0, g1, g2, t1, t17, t18, t19, g3, g4, g4n, g5, g5n, g6, g6n, g7, g7n, hwp, ixp, fxp, e2, e3, Zfk c7, Zfl c8, Zfh (show (0 : Int) < (i : Int) by omega)]
    exact ⟨k07, by rw [bad hcl (by rw [hb, hd, decide_eq_true c8]; simp)]⟩
  simp (maxSteps := 4000000) (disch := omega) only [Zq, evO, vbox, wr, Zeq, if_true, if_false, Nat.reduceEqDiff, Nat.reduceAdd, Nat.reduceLeDiff, Nat.reduceSub, and_self, and_true, true_and, reduceIte, reduceCtorEq, eq_self, implies_true, forall_const, false_implies, imp_self, decide_true, decide_false, fix_nil, fix_cons, g0, g1, g2, t1, t17, t18, t19, g3, g4, g4n, g5, g5n, g6, g6n, g7, g7n, hwp, ixp, fxp, e2, e3, Zfk c7, Zfm c8, Zfh (show (0 : Int) < (i : Int) by omega)]
  exact ⟨hin, fin, upto_succ ha (by rw [hcl, c2, c4, c6, hb, decide_eq_false c7, decide_eq_false c8]; simp)⟩
end
end Go.Proofs.Ytjjglonmaajjoaa.AX
