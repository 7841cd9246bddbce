/- Drawn sidings and shunts; the law's helpers. No condition beyond each law's own; of the program: the functions' forms. -/
import Derived.Test.YtiajbefljkikiaaShd
namespace Go.Proofs.Ytiajbefljkikiaa.AX
open Go
set_option maxRecDepth 10000
set_option maxHeartbeats 4000000
set_option linter.unusedSimpArgs false
set_option linter.unusedVariables false
theorem ext_getD {xs ys : List Int} (hl : xs.length = ys.length) (h : ∀ i, i < xs.length → xs.getD i 0 = ys.getD i 0) : xs = ys := by
  refine List.ext_getElem hl fun i h1 h2 => ?_
  have := h i h1
  rwa [getD_get xs 0 h1, getD_get ys 0 h2] at this
theorem ints_rd {H : Heap} {v : Value} {xs : List Int} (h : Ints H v xs) : (rSlc rInt).rd H [v] xs := of_ints h
theorem dec_eq_tt {α : Type} [DecidableEq α] {a b : α} (h : a = b) : decide (a = b) = true := decide_eq_true h
theorem dec_eq_ff {α : Type} [DecidableEq α] {a b : α} (h : ¬ a = b) : decide (a = b) = false := decide_eq_false h
section
variable {H : Heap} {v w : Value}
theorem r_laws_sameInts {xs ys : List Int} (h1 : (rSlc rInt).rd H [v] xs) (h2 : (rSlc rInt).rd H [w] ys) (hl : xs.length ≤ 1048576) : Run Try.prog 87 [v, w] H fun r H' => Keep H H' ∧ r = .bool (decide (xs = ys)) := by
  have l1 : ∀ H : Heap, vlen H v = some (.int .i64 xs.length, H) := fun _ => slc_len h1
  have l2 : ∀ H : Heap, vlen H w = some (.int .i64 ys.length, H) := fun _ => slc_len h2
  have i1 := ints_of h1
  have i2 := ints_of h2
  by_cases hlen : (xs.length : Int) = ys.length
  rotate_left
  · refine Run.intro c87 rfl ?_
    simp (maxSteps := 4000000) (disch := omega) only [Zq, evO, vbox, wr, Zeq, if_true, if_false, Nat.reduceEqDiff, Nat.reduceAdd, Nat.reduceLeDiff, Nat.reduceSub, and_self, and_true, true_and, reduceIte, reduceCtorEq, eq_self, implies_true, forall_const, false_implies, imp_self, decide_true, decide_false, x87, l1, l2, Zfm hlen]
    exact ⟨Keep.refl _, by rw [dec_eq_ff (fun h => hlen (by rw [h]))]⟩
  refine Run.intro c87 rfl ?_
  simp (maxSteps := 4000000) (disch := omega) only [Zq, evO, vbox, wr, Zeq, if_true, if_false, Nat.reduceEqDiff, Nat.reduceAdd, Nat.reduceLeDiff, Nat.reduceSub, and_self, and_true, true_and, reduceIte, reduceCtorEq, eq_self, implies_true, forall_const, false_implies, imp_self, decide_true, decide_false, x87, l1, l2, Zfl hlen]
  refine G_forF [0, 1] (xs.length) (fun i T H1 => T 5 = .int .i64 (i : Int) ∧ Keep H H1 ∧ ∀ j, j < i → xs.getD j 0 = ys.getD j 0) 0 (Nat.zero_le _) ?_ ?_
  · simp (maxSteps := 4000000) (disch := omega) only [Zq, evO, vbox, wr, Zeq, if_true, if_false, Nat.reduceEqDiff, Nat.reduceAdd, Nat.reduceLeDiff, Nat.reduceSub, and_self, and_true, true_and, reduceIte, reduceCtorEq, eq_self, implies_true, forall_const, false_implies, imp_self, decide_true, decide_false, fix_nil, fix_cons]
    exact ⟨Keep.refl _, fun j hj => by omega⟩
  rintro i T H1 hi hT ⟨t5, k1, he⟩
  simp only [fix_nil, fix_cons, Zq, evO, vbox, wr, Zeq, if_true, if_false, Nat.reduceEqDiff, Nat.reduceAdd, Nat.reduceLeDiff, Nat.reduceSub, and_self, and_true, true_and, reduceIte, reduceCtorEq, eq_self, implies_true, forall_const, false_implies, imp_self, decide_true, decide_false] at hT
  obtain ⟨t0, t1⟩ := hT
  by_cases hin : i < xs.length
  · have j1 := i1.keep k1
    have j2 := i2.keep k1
    have hin2 : i < ys.length := by omega
    by_cases e : xs.getD i 0 = ys.getD i 0
    · simp (maxSteps := 4000000) (disch := omega) only [Zq, evO, vbox, wr, Zeq, if_true, if_false, Nat.reduceEqDiff, Nat.reduceAdd, Nat.reduceLeDiff, Nat.reduceSub, and_self, and_true, true_and, reduceIte, reduceCtorEq, eq_self, implies_true, forall_const, false_implies, imp_self, decide_true, decide_false, fix_nil, fix_cons, t0, t1, t5, l1]
      refine G_calm rfl ?_
      simp (maxSteps := 4000000) (disch := omega) only [Zq, evO, vbox, wr, Zeq, if_true, if_false, Nat.reduceEqDiff, Nat.reduceAdd, Nat.reduceLeDiff, Nat.reduceSub, and_self, and_true, true_and, reduceIte, reduceCtorEq, eq_self, implies_true, forall_const, false_implies, imp_self, decide_true, decide_false, fix_nil, fix_cons, t0, t1, t5, j1.idx hin, j1.ld hin, j2.idx hin2, j2.ld hin2, Zfl e]
      exact ⟨hin, k1, fun j hj => by
        by_cases e2 : j = i
        · subst e2; exact e
        · exact he j (by omega)⟩
    · simp (maxSteps := 4000000) (disch := omega) only [Zq, evO, vbox, wr, Zeq, if_true, if_false, Nat.reduceEqDiff, Nat.reduceAdd, Nat.reduceLeDiff, Nat.reduceSub, and_self, and_true, true_and, reduceIte, reduceCtorEq, eq_self, implies_true, forall_const, false_implies, imp_self, decide_true, decide_false, fix_nil, fix_cons, t0, t1, t5, l1]
      refine G_calm rfl ?_
      simp (maxSteps := 4000000) (disch := omega) only [Zq, evO, vbox, wr, Zeq, if_true, if_false, Nat.reduceEqDiff, Nat.reduceAdd, Nat.reduceLeDiff, Nat.reduceSub, and_self, and_true, true_and, reduceIte, reduceCtorEq, eq_self, implies_true, forall_const, false_implies, imp_self, decide_true, decide_false, fix_nil, fix_cons, t0, t1, t5, j1.idx hin, j1.ld hin, j2.idx hin2, j2.ld hin2, Zfm e]
      exact ⟨k1, by rw [dec_eq_ff (fun h => e (by rw [h]))]⟩
  · obtain rfl : i = xs.length := by omega
    simp (maxSteps := 4000000) (disch := omega) only [Zq, evO, vbox, wr, Zeq, if_true, if_false, Nat.reduceEqDiff, Nat.reduceAdd, Nat.reduceLeDiff, Nat.reduceSub, and_self, and_true, true_and, reduceIte, reduceCtorEq, eq_self, implies_true, forall_const, false_implies, imp_self, decide_true, decide_false, fix_nil, fix_cons, t0, t1, t5, l1]
    exact ⟨k1, by rw [dec_eq_tt (ext_getD (by omega) he)]⟩
theorem r_laws_within {xs : List Int} {x : Int} (h1 : (rSlc rInt).rd H [v] xs) (hl : xs.length ≤ 1048576) : Run Try.prog 39 [v, .int .i64 x] H fun r H' => Keep H H' ∧ r = .bool (xs.contains x) := by
  have l1 : ∀ H : Heap, vlen H v = some (.int .i64 xs.length, H) := fun _ => slc_len h1
  have i1 := ints_of h1
  refine Run.intro c39 rfl ?_
  simp (maxSteps := 4000000) (disch := omega) only [Zq, evO, vbox, wr, Zeq, if_true, if_false, Nat.reduceEqDiff, Nat.reduceAdd, Nat.reduceLeDiff, Nat.reduceSub, and_self, and_true, true_and, reduceIte, reduceCtorEq, eq_self, implies_true, forall_const, false_implies, imp_self, decide_true, decide_false, x39, l1]
  refine G_forF [0, 1] (xs.length) (fun i T H1 => T 5 = .int .i64 (i : Int) ∧ Keep H H1 ∧ ∀ j, j < i → xs.getD j 0 ≠ x) 0 (Nat.zero_le _) ?_ ?_
  · simp (maxSteps := 4000000) (disch := omega) only [Zq, evO, vbox, wr, Zeq, if_true, if_false, Nat.reduceEqDiff, Nat.reduceAdd, Nat.reduceLeDiff, Nat.reduceSub, and_self, and_true, true_and, reduceIte, reduceCtorEq, eq_self, implies_true, forall_const, false_implies, imp_self, decide_true, decide_false, fix_nil, fix_cons]
    exact ⟨Keep.refl _, fun j hj => by omega⟩
  rintro i T H1 hi hT ⟨t5, k1, he⟩
  simp only [fix_nil, fix_cons, Zq, evO, vbox, wr, Zeq, if_true, if_false, Nat.reduceEqDiff, Nat.reduceAdd, Nat.reduceLeDiff, Nat.reduceSub, and_self, and_true, true_and, reduceIte, reduceCtorEq, eq_self, implies_true, forall_const, false_implies, imp_self, decide_true, decide_false] at hT
  obtain ⟨t0, t1⟩ := hT
  by_cases hin : i < xs.length
  · have j1 := i1.keep k1
    by_cases e : xs.getD i 0 = x
    · simp (maxSteps := 4000000) (disch := omega) only [Zq, evO, vbox, wr, Zeq, if_true, if_false, Nat.reduceEqDiff, Nat.reduceAdd, Nat.reduceLeDiff, Nat.reduceSub, and_self, and_true, true_and, reduceIte, reduceCtorEq, eq_self, implies_true, forall_const, false_implies, imp_self, decide_true, decide_false, fix_nil, fix_cons, t0, t1, t5, l1, j1.idx hin, j1.ld hin, Zfl e]
      refine ⟨k1, ?_⟩
      rw [← e, getD_get xs 0 hin]
      simp
    · simp (maxSteps := 4000000) (disch := omega) only [Zq, evO, vbox, wr, Zeq, if_true, if_false, Nat.reduceEqDiff, Nat.reduceAdd, Nat.reduceLeDiff, Nat.reduceSub, and_self, and_true, true_and, reduceIte, reduceCtorEq, eq_self, implies_true, forall_const, false_implies, imp_self, decide_true, decide_false, fix_nil, fix_cons, t0, t1, t5, l1, j1.idx hin, j1.ld hin, Zfm e]
      exact ⟨hin, k1, fun j hj => by
        by_cases e2 : j = i
        · subst e2; exact e
        · exact he j (by omega)⟩
  · obtain rfl : i = xs.length := by omega
    simp (maxSteps := 4000000) (disch := omega) only [Zq, evO, vbox, wr, Zeq, if_true, if_false, Nat.reduceEqDiff, Nat.reduceAdd, Nat.reduceLeDiff, Nat.reduceSub, and_self, and_true, true_and, reduceIte, reduceCtorEq, eq_self, implies_true, forall_const, false_implies, imp_self, decide_true, decide_false, fix_nil, fix_cons, t0, t1, t5, l1]
    have hno : x ∉ xs := fun hm => by
      obtain ⟨j, hj, e⟩ := List.getElem_of_mem hm
      exact he j hj (by rw [getD_get xs 0 hj]; exact e)
    exact ⟨k1, by simp [hno]⟩
theorem r_impl_Undo (f t m : Int) : Run Try.prog 37 [.agg #[.int .i64 f, .int .i64 t, .int .i64 m]] H fun r H' => Keep H H' ∧ r = .agg #[.int .i64 t, .int .i64 f, .int .i64 m] := by
  refine Run.intro c37 rfl ?_
  simp (maxSteps := 4000000) (disch := omega) only [Zq, evO, vbox, wr, Zeq, if_true, if_false, Nat.reduceEqDiff, Nat.reduceAdd, Nat.reduceLeDiff, Nat.reduceSub, and_self, and_true, true_and, reduceIte, reduceCtorEq, eq_self, implies_true, forall_const, false_implies, imp_self, decide_true, decide_false, x37]
  first | exact ⟨by repeat' (first | exact Keep.refl _ | assumption | refine Keep.push' ?_ | refine Keep.set' ?_ ?_ | refine Keep.moved' ?_ ?_ | omega), rfl⟩ | repeat' (first | exact Keep.refl _ | assumption | refine Keep.push' ?_ | refine Keep.set' ?_ ?_ | refine Keep.moved' ?_ ?_ | omega)
end
theorem yard_totE (room : List Int) (rows : List (List Int)) : rSidings.tot (room, rows) = room.length + rows.length + rows.flatten.length := by
  have e : (rSlc (rSlc rInt)).tot rows = rows.length + rows.flatten.length := by
    induction rows with
    | nil => rfl
    | cons r rs ih =>
      have e2 : (rSlc (rSlc rInt)).tot (r :: rs) = ((rSlc rInt).tot r + 1) + (rSlc (rSlc rInt)).tot rs := by simp only [rSlc, List.length_cons, List.map_cons, List.sum_cons]; omega
      rw [e2, tot_I, ih, List.flatten_cons, List.length_append, List.length_cons]
      omega
  rw [sidings_tot, e, tot_I]
  omega
section
variable {H : Heap} {v0 v1 w0 w1 : Value}
theorem r_laws_sameYard {room : List Int} {rows rows' : List (List Int)} (h0 : (rSlc rInt).rd H [v0] room) (h1 : (rSlc (rSlc rInt)).rd H [v1] rows) (q0 : (rSlc rInt).rd H [w0] room) (q1 : (rSlc (rSlc rInt)).rd H [w1] rows') (ht : rSidings.tot (room, rows) ≤ 1048576) (hl : rows.length = rows'.length) : Run Try.prog 38 [.agg #[v0, v1], .agg #[w0, w1]] H fun r H' => Keep H H' ∧ r = .bool (decide (rows = rows')) := by
  obtain ⟨m1, m2, m3⟩ := yard_tot ht
  have l1 : ∀ H : Heap, vlen H v1 = some (.int .i64 rows.length, H) := fun _ => slc_len h1
  have l2 : ∀ H : Heap, vlen H w1 = some (.int .i64 rows'.length, H) := fun _ => slc_len q1
  refine Run.intro c38 rfl ?_
  simp (maxSteps := 4000000) (disch := omega) only [Zq, evO, vbox, wr, Zeq, if_true, if_false, Nat.reduceEqDiff, Nat.reduceAdd, Nat.reduceLeDiff, Nat.reduceSub, and_self, and_true, true_and, reduceIte, reduceCtorEq, eq_self, implies_true, forall_const, false_implies, imp_self, decide_true, decide_false, x38]
  generalize hG0 : (H.push [v0, v1]).push [w0, w1] = H0
  have k0 : Keep H H0 := by rw [← hG0]; repeat' (first | exact Keep.refl _ | assumption | refine Keep.push' ?_ | refine Keep.set' ?_ ?_ | refine Keep.moved' ?_ ?_ | omega)
  have g0 : H0.get H.nxt = some (.own [v0, v1]) := by rw [← hG0]; simp (maxSteps := 4000000) (disch := omega) only [Zq, evO, vbox, wr, Zeq, if_true, if_false, Nat.reduceEqDiff, Nat.reduceAdd, Nat.reduceLeDiff, Nat.reduceSub, and_self, and_true, true_and, reduceIte, reduceCtorEq, eq_self, implies_true, forall_const, false_implies, imp_self, decide_true, decide_false]
  have g0w : H0.get (H.nxt + 1) = some (.own [w0, w1]) := by rw [← hG0]; simp (maxSteps := 4000000) (disch := omega) only [Zq, evO, vbox, wr, Zeq, if_true, if_false, Nat.reduceEqDiff, Nat.reduceAdd, Nat.reduceLeDiff, Nat.reduceSub, and_self, and_true, true_and, reduceIte, reduceCtorEq, eq_self, implies_true, forall_const, false_implies, imp_self, decide_true, decide_false]
  have n0 : H0.nxt = H.nxt + 2 := by rw [← hG0]; simp only [Zbg]
  clear hG0
  refine GO_call ((r_laws_sameInts ((rSlc rInt).rdk h0 k0) ((rSlc rInt).rdk q0 k0) m1).mono ?_)
  rintro _ H1 ⟨k1, rfl⟩
  have n1 := k1.nxt
  have g1 := (k1.get (H.nxt) (by omega)).trans g0
  have g1w := (k1.get (H.nxt + 1) (by omega)).trans g0w
  have k01 := k0.trans k1
  simp (maxSteps := 4000000) (disch := omega) only [Zq, evO, vbox, wr, Zeq, if_true, if_false, Nat.reduceEqDiff, Nat.reduceAdd, Nat.reduceLeDiff, Nat.reduceSub, and_self, and_true, true_and, reduceIte, reduceCtorEq, eq_self, implies_true, forall_const, false_implies, imp_self, decide_true, decide_false, fix_nil, fix_cons, g0, g0w, g1, g1w, l1, l2, Zfl (by omega : (rows.length : Int) = rows'.length), dec_eq_tt (rfl : room = room)]
  refine G_forF [2, 3] (rows.length) (fun i T H2 => T 5 = .int .i64 (i : Int) ∧ Keep H1 H2 ∧ ∀ j, j < i → rows.getD j [] = rows'.getD j []) 0 (Nat.zero_le _) ?_ ?_
  · simp (maxSteps := 4000000) (disch := omega) only [Zq, evO, vbox, wr, Zeq, if_true, if_false, Nat.reduceEqDiff, Nat.reduceAdd, Nat.reduceLeDiff, Nat.reduceSub, and_self, and_true, true_and, reduceIte, reduceCtorEq, eq_self, implies_true, forall_const, false_implies, imp_self, decide_true, decide_false, fix_nil, fix_cons, g0, g0w, g1, g1w]
    exact ⟨Keep.refl _, fun j hj => by omega⟩
  rintro i T H2 hi hT ⟨t5, k2, he⟩
  simp only [fix_nil, fix_cons, Zq, evO, vbox, wr, Zeq, if_true, if_false, Nat.reduceEqDiff, Nat.reduceAdd, Nat.reduceLeDiff, Nat.reduceSub, and_self, and_true, true_and, reduceIte, reduceCtorEq, eq_self, implies_true, forall_const, false_implies, imp_self, decide_true, decide_false] at hT
  obtain ⟨t2, t3⟩ := hT
  have g2 := (k2.get H.nxt (by omega)).trans g1
  have g2w := (k2.get (H.nxt + 1) (by omega)).trans g1w
  by_cases hin : i < rows.length
  · have hin2 : i < rows'.length := by omega
    have k02 := k01.trans k2
    have r1 := (rSlc (rSlc rInt)).rdk h1 k02
    have r2 := (rSlc (rSlc rInt)).rdk q1 k02
    have ix1 := fun H0 : Heap => slc_idx (r := rSlc rInt) (H1 := H0) (sz := 1) (i := i) (k := .i64) rfl r1 hin
    have ix2 := fun H0 : Heap => slc_idx (r := rSlc rInt) (H1 := H0) (sz := 1) (i := i) (k := .i64) rfl r2 hin2
    obtain ⟨rv, ld1, hr1⟩ := yrow_get r1 hin
    obtain ⟨rw', ld2, hr2⟩ := yrow_get r2 hin2
    have e1 := ld1 H2 (Keep.refl _)
    have e2 := ld2 H2 (Keep.refl _)
    simp (maxSteps := 4000000) (disch := omega) only [Zq, evO, vbox, wr, Zeq, if_true, if_false, Nat.reduceEqDiff, Nat.reduceAdd, Nat.reduceLeDiff, Nat.reduceSub, and_self, and_true, true_and, reduceIte, reduceCtorEq, eq_self, implies_true, forall_const, false_implies, imp_self, decide_true, decide_false, fix_nil, fix_cons, g0, g0w, g1, g1w, t2, t3, t5, g2, g2w, l1]
    refine G_tame rfl ?_
    simp (maxSteps := 4000000) (disch := omega) only [Zq, evO, vbox, wr, Zeq, if_true, if_false, Nat.reduceEqDiff, Nat.reduceAdd, Nat.reduceLeDiff, Nat.reduceSub, and_self, and_true, true_and, reduceIte, reduceCtorEq, eq_self, implies_true, forall_const, false_implies, imp_self, decide_true, decide_false, fix_nil, fix_cons, g0, g0w, g1, g1w, t2, t3, t5, g2, g2w, ix1, ix2, e1, e2]
    have hm : (rows.getD i []).length ≤ 1048576 := by rw [getD_get rows [] hin]; exact m3 i hin
    refine GO_call ((r_laws_sameInts (ints_rd hr1) (ints_rd hr2) hm).mono ?_)
    rintro _ H3 ⟨k3, rfl⟩
    have n3 := k3.nxt
    by_cases e : rows.getD i [] = rows'.getD i []
    · simp (maxSteps := 4000000) (disch := omega) only [Zq, evO, vbox, wr, Zeq, if_true, if_false, Nat.reduceEqDiff, Nat.reduceAdd, Nat.reduceLeDiff, Nat.reduceSub, and_self, and_true, true_and, reduceIte, reduceCtorEq, eq_self, implies_true, forall_const, false_implies, imp_self, decide_true, decide_false, fix_nil, fix_cons, g0, g0w, g1, g1w, t2, t3, t5, g2, g2w, dec_eq_tt e]
      exact ⟨hin, k2.trans k3, fun j hj => by
        by_cases e2 : j = i
        · subst e2; exact e
        · exact he j (by omega)⟩
    · simp (maxSteps := 4000000) (disch := omega) only [Zq, evO, vbox, wr, Zeq, if_true, if_false, Nat.reduceEqDiff, Nat.reduceAdd, Nat.reduceLeDiff, Nat.reduceSub, and_self, and_true, true_and, reduceIte, reduceCtorEq, eq_self, implies_true, forall_const, false_implies, imp_self, decide_true, decide_false, fix_nil, fix_cons, g0, g0w, g1, g1w, t2, t3, t5, g2, g2w, dec_eq_ff e]
      exact ⟨k02.trans k3, by rw [dec_eq_ff (fun h => e (by rw [h]))]⟩
  · obtain rfl : i = rows.length := by omega
    simp (maxSteps := 4000000) (disch := omega) only [Zq, evO, vbox, wr, Zeq, if_true, if_false, Nat.reduceEqDiff, Nat.reduceAdd, Nat.reduceLeDiff, Nat.reduceSub, and_self, and_true, true_and, reduceIte, reduceCtorEq, eq_self, implies_true, forall_const, false_implies, imp_self, decide_true, decide_false, fix_nil, fix_cons, g0, g0w, g1, g1w, t2, t3, t5, g2, g2w, l1]
    refine ⟨k01.trans k2, ?_⟩
    rw [dec_eq_tt]
    refine List.ext_getElem hl fun i h1 h2 => ?_
    have := he i h1
    rwa [getD_get rows [] h1, getD_get rows' [] h2] at this
end
section
variable {B : Heap} {v : Value} {code : List Int} {p : Nat} {H : Heap}
theorem ints_lt2 {xs : List Int} : Ints (H.push (xs.map (Value.int .i64))) (.slice (some ⟨H.nxt, 0, none⟩) xs.length 1) xs :=
  sl_own (by rw [Zbg]; omega) (by rw [push_get', if_pos rfl]) (by simp)
theorem r_spec_l18DrawShunt {n : Nat} (hb : Bts' B v code) (hl : code.length ≤ 1048576) (hc : ∀ x ∈ code, 0 ≤ x ∧ x ≤ 255) (c : Cur B v code H p) (hn : 1 ≤ n) (hn' : n ≤ 6) : Run Try.prog 106 [ptr p 0, .int .i64 (n : Int)] H fun r H' => Chg [p] H H' ∧ Cur B v code H' p ∧ ∃ f t m : Int, r = .agg #[.int .i64 f, .int .i64 t, .int .i64 m] := by
  have pl := c.2.2.1
  have hBn := c.2.1
  refine Run.intro c106 rfl ?_
  simp (maxSteps := 4000000) (disch := omega) only [Zq, evO, vbox, wr, Zeq, if_true, if_false, Nat.reduceEqDiff, Nat.reduceAdd, Nat.reduceLeDiff, Nat.reduceSub, and_self, and_true, true_and, reduceIte, reduceCtorEq, eq_self, implies_true, forall_const, false_implies, imp_self, decide_true, decide_false, x106]
  generalize hG1 : H.push [.int .i64 0, .int .i64 0, .int .i64 0] = H1
  have k1 : Keep H H1 := by rw [← hG1]; exact Keep.push _ _
  have g1 : H1.get H.nxt = some (.own [.int .i64 0, .int .i64 0, .int .i64 0]) := by rw [← hG1, push_get', if_pos rfl]
  have n1 : H1.nxt = H.nxt + 1 := by rw [← hG1, Zbg]
  clear hG1
  refine GO_call ((r_spec_l01Below hb hl hc (c.chg k1) hn (by omega)).mono ?_)
  rintro _ H2 ⟨c2, u2, f, rfl, hf⟩
  simp (maxSteps := 4000000) (disch := omega) only [Zq, evO, vbox, wr, Zeq, if_true, if_false, Nat.reduceEqDiff, Nat.reduceAdd, Nat.reduceLeDiff, Nat.reduceSub, and_self, and_true, true_and, reduceIte, reduceCtorEq, eq_self, implies_true, forall_const, false_implies, imp_self, decide_true, decide_false, fix_nil, fix_cons, g1]
  refine GO_call ((r_spec_l01Below hb hl hc u2 hn (by omega)).mono ?_)
  rintro _ H3 ⟨c3, u3, t, rfl, ht⟩
  simp (maxSteps := 4000000) (disch := omega) only [Zq, evO, vbox, wr, Zeq, if_true, if_false, Nat.reduceEqDiff, Nat.reduceAdd, Nat.reduceLeDiff, Nat.reduceSub, and_self, and_true, true_and, reduceIte, reduceCtorEq, eq_self, implies_true, forall_const, false_implies, imp_self, decide_true, decide_false, fix_nil, fix_cons, g1]
  refine GO_call ((r_spec_l01Below (n := 4) hb hl hc u3 (by omega) (by omega)).mono ?_)
  rintro _ H4 ⟨c4, u4, m, rfl, hm⟩
  have hw0 : IntKind.i64.wrap (1 + (m : Int)) = ((1 + m : Nat) : Int) := by rw [wrap64 (by omega) (by omega)]; omega
  simp (maxSteps := 4000000) (disch := omega) only [Zq, evO, vbox, wr, Zeq, if_true, if_false, Nat.reduceEqDiff, Nat.reduceAdd, Nat.reduceLeDiff, Nat.reduceSub, and_self, and_true, true_and, reduceIte, reduceCtorEq, eq_self, implies_true, forall_const, false_implies, imp_self, decide_true, decide_false, fix_nil, fix_cons, g1, hw0]
  have n2 := c2.nxt
  have n3 := c3.nxt
  have n4 := c4.nxt
  have gA := (c4.get H.nxt (by omega) (by simp; omega)).trans ((c3.get H.nxt (by omega) (by simp; omega)).trans ((c2.get H.nxt (by omega) (by simp; omega)).trans g1))
  have cc : Chg [p] H H4 := k1.chg.trans (c2.trans (c3.trans c4))
  clear g1
  generalize hG5 : (H4.push [.int .i64 0, .int .i64 0, .int .i64 0]).set H4.nxt [.int .i64 (f : Int), .int .i64 (t : Int), .int .i64 ((1 + m : Nat) : Int)] = H5
  have k5 : Keep H4 H5 := by rw [← hG5]; repeat' (first | exact Keep.refl _ | assumption | refine Keep.push' ?_ | refine Keep.set' ?_ ?_ | refine Keep.moved' ?_ ?_ | omega)
  have g5 : H5.get H4.nxt = some (.own [.int .i64 (f : Int), .int .i64 (t : Int), .int .i64 ((1 + m : Nat) : Int)]) := by rw [← hG5, Zbi, if_pos rfl]
  have n5 : H5.nxt = H4.nxt + 1 := by rw [← hG5, Zbh, Zbg]
  have gB := (k5.get H.nxt (by omega)).trans gA
  refine GO_call ((r_spec_l01Below (n := 25) hb hl hc (u4.chg k5) (by omega) (by omega)).mono ?_)
  rintro _ H6 ⟨c6, u6, z6, rfl, hz6⟩
  have n6 := c6.nxt
  have pl4 := u4.2.2.1
  have g6 := (c6.get H4.nxt (by omega) (by simp; omega)).trans g5
  have gC := (c6.get H.nxt (by omega) (by simp; omega)).trans gB
  have cc6 : Chg [p] H H6 := cc.trans (k5.chg.trans c6)
  clear hG5
  have fin : ∀ (H7 : Heap) (cs : List Value) (f t m : Int), Chg [p] H6 H7 → Cur B v code H7 p → (Chg [p] H ((H7.set H4.nxt cs).set H.nxt [.int .i64 f, .int .i64 t, .int .i64 m])) ∧ Cur B v code ((H7.set H4.nxt cs).set H.nxt [.int .i64 f, .int .i64 t, .int .i64 m]) p := fun H7 cs f t m c7 u7 => by
    have n7 := c7.nxt
    refine ⟨⟨by simp only [Zbh]; omega, fun a ha hm => ?_⟩, cur_ch (G := [H.nxt, H4.nxt]) u7 (by simp only [Zbh]; omega) (fun a ha hm => ?_) (fun a ha => ?_) (by simp; omega)⟩
    · rw [Zbi, if_neg (by omega), Zbi, if_neg (by omega), c7.get a (by omega) hm, cc6.get a ha hm]
    · simp only [List.mem_cons, List.not_mem_nil, or_false, not_or] at hm
      rw [Zbi, if_neg hm.1, Zbi, if_neg hm.2]
    · simp only [List.mem_cons, List.not_mem_nil, or_false] at ha
      omega
  have fin0 : ∀ (H7 : Heap) (f t m : Int), Chg [p] H6 H7 → Cur B v code H7 p → (Chg [p] H (H7.set H.nxt [.int .i64 f, .int .i64 t, .int .i64 m])) ∧ Cur B v code (H7.set H.nxt [.int .i64 f, .int .i64 t, .int .i64 m]) p := fun H7 f t m c7 u7 => by
    have n7 := c7.nxt
    refine ⟨⟨by simp only [Zbh]; omega, fun a ha hm => ?_⟩, cur_ch (G := [H.nxt]) u7 (by simp only [Zbh]; omega) (fun a ha hm => ?_) (fun a ha => ?_) (by simp; omega)⟩
    · rw [Zbi, if_neg (by omega), c7.get a (by omega) hm, cc6.get a ha hm]
    · simp only [List.mem_cons, List.not_mem_nil, or_false, not_or] at hm
      rw [Zbi, if_neg hm]
    · simp only [List.mem_cons, List.not_mem_nil, or_false] at ha
      omega
  by_cases e0 : (z6 : Int) = 0
  · simp (maxSteps := 4000000) (disch := omega) only [Zq, evO, vbox, wr, Zeq, if_true, if_false, Nat.reduceEqDiff, Nat.reduceAdd, Nat.reduceLeDiff, Nat.reduceSub, and_self, and_true, true_and, reduceIte, reduceCtorEq, eq_self, implies_true, forall_const, false_implies, imp_self, decide_true, decide_false, fix_nil, fix_cons, g5, g6, gC, Zfl e0]
    have hI : Ints (H6.push [.int .i64 (-1), .int .i64 (n : Int)]) (.slice (some ⟨H6.nxt, 0, none⟩) 2 1) [-1, (n : Int)] := ints_lt2
    generalize hG7 : H6.push [Value.int .i64 (-1), .int .i64 (n : Int)] = H7 at hI
    have k7 : Keep H6 H7 := by rw [← hG7]; exact Keep.push _ _
    have pl6 := u6.2.2.1
    refine GO_call ((r_spec_l01PickInt hb hl hc (u6.chg k7) hI (by show H6.nxt ≠ p; omega) (by simp) (by simp)).mono ?_)
    rintro _ H8 ⟨c8, u8, z8, hz8, rfl⟩
    have k7n := k7.nxt
    have g8 := (c8.get H4.nxt (by omega) (by simp; omega)).trans ((k7.get H4.nxt (by omega)).trans g6)
    have gD := (c8.get H.nxt (by omega) (by simp; omega)).trans ((k7.get H.nxt (by omega)).trans gC)
    simp (maxSteps := 4000000) (disch := omega) only [Zq, evO, vbox, wr, Zeq, if_true, if_false, Nat.reduceEqDiff, Nat.reduceAdd, Nat.reduceLeDiff, Nat.reduceSub, and_self, and_true, true_and, reduceIte, reduceCtorEq, eq_self, implies_true, forall_const, false_implies, imp_self, decide_true, decide_false, fix_nil, fix_cons, g5, g6, g8, gD]
    have ff := fin H8 [.int .i64 ([-1, (n : Int)].getD z8 0), .int .i64 (t : Int), .int .i64 ((1 + m : Nat) : Int)] ([-1, (n : Int)].getD z8 0) t ((1 + m : Nat) : Int) (k7.chg.trans c8) u8
    exact ⟨ff.1, ff.2, _, _, _, rfl⟩
  by_cases e1 : (z6 : Int) = 1
  · simp (maxSteps := 4000000) (disch := omega) only [Zq, evO, vbox, wr, Zeq, if_true, if_false, Nat.reduceEqDiff, Nat.reduceAdd, Nat.reduceLeDiff, Nat.reduceSub, and_self, and_true, true_and, reduceIte, reduceCtorEq, eq_self, implies_true, forall_const, false_implies, imp_self, decide_true, decide_false, fix_nil, fix_cons, g5, g6, gC, Zfm e0, Zfl e1]
    have hI : Ints (H6.push [.int .i64 (-1), .int .i64 (n : Int)]) (.slice (some ⟨H6.nxt, 0, none⟩) 2 1) [-1, (n : Int)] := ints_lt2
    generalize hG7 : H6.push [Value.int .i64 (-1), .int .i64 (n : Int)] = H7 at hI
    have k7 : Keep H6 H7 := by rw [← hG7]; exact Keep.push _ _
    have pl6 := u6.2.2.1
    refine GO_call ((r_spec_l01PickInt hb hl hc (u6.chg k7) hI (by show H6.nxt ≠ p; omega) (by simp) (by simp)).mono ?_)
    rintro _ H8 ⟨c8, u8, z8, hz8, rfl⟩
    have k7n := k7.nxt
    have g8 := (c8.get H4.nxt (by omega) (by simp; omega)).trans ((k7.get H4.nxt (by omega)).trans g6)
    have gD := (c8.get H.nxt (by omega) (by simp; omega)).trans ((k7.get H.nxt (by omega)).trans gC)
    simp (maxSteps := 4000000) (disch := omega) only [Zq, evO, vbox, wr, Zeq, if_true, if_false, Nat.reduceEqDiff, Nat.reduceAdd, Nat.reduceLeDiff, Nat.reduceSub, and_self, and_true, true_and, reduceIte, reduceCtorEq, eq_self, implies_true, forall_const, false_implies, imp_self, decide_true, decide_false, fix_nil, fix_cons, g5, g6, g8, gD]
    have ff := fin H8 [.int .i64 (f : Int), .int .i64 ([-1, (n : Int)].getD z8 0), .int .i64 ((1 + m : Nat) : Int)] f ([-1, (n : Int)].getD z8 0) ((1 + m : Nat) : Int) (k7.chg.trans c8) u8
    exact ⟨ff.1, ff.2, _, _, _, rfl⟩
  by_cases e2 : (z6 : Int) = 2
  · simp (maxSteps := 4000000) (disch := omega) only [Zq, evO, vbox, wr, Zeq, if_true, if_false, Nat.reduceEqDiff, Nat.reduceAdd, Nat.reduceLeDiff, Nat.reduceSub, and_self, and_true, true_and, reduceIte, reduceCtorEq, eq_self, implies_true, forall_const, false_implies, imp_self, decide_true, decide_false, fix_nil, fix_cons, g5, g6, gC, Zfm e0, Zfm e1, Zfl e2]
    have hI : Ints (H6.push [.int .i64 0, .int .i64 (-1), .int .i64 9223372036854775807]) (.slice (some ⟨H6.nxt, 0, none⟩) 3 1) [0, -1, 9223372036854775807] := ints_lt2
    generalize hG7 : H6.push [Value.int .i64 0, .int .i64 (-1), .int .i64 9223372036854775807] = H7 at hI
    have k7 : Keep H6 H7 := by rw [← hG7]; exact Keep.push _ _
    have pl6 := u6.2.2.1
    refine GO_call ((r_spec_l01PickInt hb hl hc (u6.chg k7) hI (by show H6.nxt ≠ p; omega) (by simp) (by simp)).mono ?_)
    rintro _ H8 ⟨c8, u8, z8, hz8, rfl⟩
    have k7n := k7.nxt
    have g8 := (c8.get H4.nxt (by omega) (by simp; omega)).trans ((k7.get H4.nxt (by omega)).trans g6)
    have gD := (c8.get H.nxt (by omega) (by simp; omega)).trans ((k7.get H.nxt (by omega)).trans gC)
    simp (maxSteps := 4000000) (disch := omega) only [Zq, evO, vbox, wr, Zeq, if_true, if_false, Nat.reduceEqDiff, Nat.reduceAdd, Nat.reduceLeDiff, Nat.reduceSub, and_self, and_true, true_and, reduceIte, reduceCtorEq, eq_self, implies_true, forall_const, false_implies, imp_self, decide_true, decide_false, fix_nil, fix_cons, g5, g6, g8, gD]
    have ff := fin H8 [.int .i64 (f : Int), .int .i64 (t : Int), .int .i64 ([0, -1, 9223372036854775807].getD z8 0)] f t ([0, -1, 9223372036854775807].getD z8 0) (k7.chg.trans c8) u8
    exact ⟨ff.1, ff.2, _, _, _, rfl⟩
  simp (maxSteps := 4000000) (disch := omega) only [Zq, evO, vbox, wr, Zeq, if_true, if_false, Nat.reduceEqDiff, Nat.reduceAdd, Nat.reduceLeDiff, Nat.reduceSub, and_self, and_true, true_and, reduceIte, reduceCtorEq, eq_self, implies_true, forall_const, false_implies, imp_self, decide_true, decide_false, fix_nil, fix_cons, g5, g6, gC, Zfm e0, Zfm e1, Zfm e2]
  have ff := fin0 H6 f t ((1 + m : Nat) : Int) (Chg.refl _ _) u6
  exact ⟨ff.1, ff.2, _, _, _, rfl⟩
theorem r_spec_l18DrawShunts {n : Nat} (hb : Bts' B v code) (hl : code.length ≤ 1048576) (hc : ∀ x ∈ code, 0 ≤ x ∧ x ≤ 255) (c : Cur B v code H p) (kB : Keep B H) (hn : 1 ≤ n) (hn' : n ≤ 6) : Run Try.prog 84 [ptr p 0, v, .int .i64 (n : Int)] H fun r H' => Chg [p] H H' ∧ Cur B v code H' p ∧ ∃ ms F, (rSlc rShunt).own H' [r] ms F ∧ F.Nodup ∧ (∀ a ∈ F, H.nxt ≤ a) ∧ ms.length ≤ 17 := by
  refine Run.intro c84 rfl ?_
  simp (maxSteps := 4000000) (disch := omega) only [Zq, evO, vbox, wr, Zeq, if_true, if_false, Nat.reduceEqDiff, Nat.reduceAdd, Nat.reduceLeDiff, Nat.reduceSub, and_self, and_true, true_and, reduceIte, reduceCtorEq, eq_self, implies_true, forall_const, false_implies, imp_self, decide_true, decide_false, x84]
  have gp0 := GP.new (r := rShunt) (sz := 3) c rfl
  generalize hG1 : H.push [] = H1 at gp0
  have k1 : Keep H H1 := by rw [← hG1]; exact Keep.push _ _
  have n1 : H1.nxt = H.nxt + 1 := by rw [← hG1, Zbg]
  refine GO_call ((r_spec_l01Size (n := 16) (IntsK.keep hb (kB.trans k1)) hl (by omega)).mono ?_)
  rintro _ H2 ⟨k2, z2, hz2, rfl⟩
  have n2 := k2.nxt
  have gp2 := gp0.keep k2
  have hw : IntKind.i64.wrap (2 + (z2 : Int)) = ((2 + z2 : Nat) : Int) := by rw [wrap64 (by omega) (by omega)]; omega
  simp (maxSteps := 4000000) (disch := omega) only [Zq, evO, vbox, wr, Zeq, if_true, if_false, Nat.reduceEqDiff, Nat.reduceAdd, Nat.reduceLeDiff, Nat.reduceSub, and_self, and_true, true_and, reduceIte, reduceCtorEq, eq_self, implies_true, forall_const, false_implies, imp_self, decide_true, decide_false, fix_nil, fix_cons, hw]
  refine GO_call ((r_spec_l01Below hb hl hc gp2.cur (by omega : 1 ≤ 2 + z2) (by omega)).mono ?_)
  rintro _ H3 ⟨c3, u3, z3, rfl, hz3⟩
  have gp3 := gp2.mv c3 u3
  simp (maxSteps := 4000000) (disch := omega) only [Zq, evO, vbox, wr, Zeq, if_true, if_false, Nat.reduceEqDiff, Nat.reduceAdd, Nat.reduceLeDiff, Nat.reduceSub, and_self, and_true, true_and, reduceIte, reduceCtorEq, eq_self, implies_true, forall_const, false_implies, imp_self, decide_true, decide_false, fix_nil, fix_cons]
  refine G_loopF [0, 2] (z3) (fun k T H4 => T 8 = .int .i64 (k : Int) ∧ ∃ (w : Value) (ms : List (Int × Int × Int)) (F : List Nat), T 7 = w ∧ GP rShunt B v code p H H4 w ms F ∧ ms.length + k ≤ 17) ?_ ?_
  · simp (maxSteps := 4000000) (disch := omega) only [Zq, evO, vbox, wr, Zeq, if_true, if_false, Nat.reduceEqDiff, Nat.reduceAdd, Nat.reduceLeDiff, Nat.reduceSub, and_self, and_true, true_and, reduceIte, reduceCtorEq, eq_self, implies_true, forall_const, false_implies, imp_self, decide_true, decide_false, fix_nil, fix_cons]
    exact ⟨_, [], _, rfl, gp3, by simp; omega⟩
  rintro k T H4 hT ⟨t8, w, ms, F, t7, gp4, hlen⟩
  simp only [fix_nil, fix_cons, Zq, evO, vbox, wr, Zeq, if_true, if_false, Nat.reduceEqDiff, Nat.reduceAdd, Nat.reduceLeDiff, Nat.reduceSub, and_self, and_true, true_and, reduceIte, reduceCtorEq, eq_self, implies_true, forall_const, false_implies, imp_self, decide_true, decide_false] at hT
  obtain ⟨t0, t2⟩ := hT
  by_cases hk : (0 : Int) < k
  rotate_left
  · obtain ⟨x1, x2⟩ := slc_cell ((rSlc rShunt).ownrd gp4.o)
    simp (maxSteps := 4000000) (disch := omega) only [Zq, evO, vbox, wr, Zeq, if_true, if_false, Nat.reduceEqDiff, Nat.reduceAdd, Nat.reduceLeDiff, Nat.reduceSub, and_self, and_true, true_and, reduceIte, reduceCtorEq, eq_self, implies_true, forall_const, false_implies, imp_self, decide_true, decide_false, fix_nil, fix_cons, t0, t2, t8, t7, Zfi hk, x1, x2]
    exact ⟨gp4.chg, gp4.cur, ms, F, gp4.o, gp4.nd, gp4.fr, by omega⟩
  simp (maxSteps := 4000000) (disch := omega) only [Zq, evO, vbox, wr, Zeq, if_true, if_false, Nat.reduceEqDiff, Nat.reduceAdd, Nat.reduceLeDiff, Nat.reduceSub, and_self, and_true, true_and, reduceIte, reduceCtorEq, eq_self, implies_true, forall_const, false_implies, imp_self, decide_true, decide_false, fix_nil, fix_cons, t0, t2, t8, t7, Zfh hk]
  refine GO_call ((r_spec_l18DrawShunt hb hl hc gp4.cur hn hn').mono ?_)
  rintro _ H5 ⟨c5, u5, f, t, m, rfl⟩
  have gp5 := gp4.mv c5 u5
  obtain ⟨u, H6, F6, e6, gp6, n6, old6⟩ := gp5.app (bytes := 24) (sz := 3) rfl (by omega) (row := [.int .i64 f, .int .i64 t, .int .i64 m]) (y := (f, t, m)) (G := []) ⟨rfl, rfl⟩ (by simp) (by simp) (by omega)
  have hw2 : IntKind.i64.wrap ((k : Int) - 1) = ((k - 1 : Nat) : Int) := by rw [wrap64 (by omega) (by omega)]; omega
  simp (maxSteps := 4000000) (disch := omega) only [Zq, evO, vbox, wr, Zeq, if_true, if_false, Nat.reduceEqDiff, Nat.reduceAdd, Nat.reduceLeDiff, Nat.reduceSub, and_self, and_true, true_and, reduceIte, reduceCtorEq, eq_self, implies_true, forall_const, false_implies, imp_self, decide_true, decide_false, fix_nil, fix_cons, t0, t2, t8, t7, e6, hw2]
  exact ⟨k - 1, by omega, rfl, _, _, _, rfl, gp6, by simp; omega⟩
theorem r_spec_DrawRightSidings (hb : Bts' H v code) (hl : code.length ≤ 1048576) (hc : ∀ x ∈ code, 0 ≤ x ∧ x ≤ 255) : Run Try.prog 34 [v] H fun r H' => Keep H H' ∧ ∃ vu vr w room rows ms F, r = .tuple #[.agg #[vu, vr], w] ∧ rSidings.own H' [vu, vr] (room, rows) F ∧ (rSlc rShunt).rd H' [w] ms ∧ yardOk room rows = true ∧ rows.flatten.length ≤ 36 ∧ ms.length ≤ 17 := by
  refine Run.intro c34 rfl ?_
  simp (maxSteps := 4000000) (disch := omega) only [Zq, evO, vbox, wr, Zeq, if_true, if_false, Nat.reduceEqDiff, Nat.reduceAdd, Nat.reduceLeDiff, Nat.reduceSub, and_self, and_true, true_and, reduceIte, reduceCtorEq, eq_self, implies_true, forall_const, false_implies, imp_self, decide_true, decide_false, x34]
  generalize hG1 : H.push [.slice none 0 0, .slice none 0 0] = H1
  have k1 : Keep H H1 := by rw [← hG1]; exact Keep.push _ _
  have g1 : H1.get H.nxt = some (.own [.slice none 0 0, .slice none 0 0]) := by rw [← hG1, push_get', if_pos rfl]
  have n1 : H1.nxt = H.nxt + 1 := by rw [← hG1, Zbg]
  clear hG1
  refine GO_call ((r_spec_l01New hb hl k1).mono ?_)
  rintro _ H2 ⟨k2, p, rfl, hp, cu⟩
  have n2 := k2.nxt
  have g2 := (k2.get H.nxt (by omega)).trans g1
  simp (maxSteps := 4000000) (disch := omega) only [Zq, evO, vbox, wr, Zeq, if_true, if_false, Nat.reduceEqDiff, Nat.reduceAdd, Nat.reduceLeDiff, Nat.reduceSub, and_self, and_true, true_and, reduceIte, reduceCtorEq, eq_self, implies_true, forall_const, false_implies, imp_self, decide_true, decide_false, fix_nil, fix_cons, g1, g2]
  refine GO_call ((r_spec_l18DrawRight hb hl hc cu).mono ?_)
  rintro _ H3 ⟨c3, u3, vu, vr, room, rows, F, rfl, o3, nd3, f3, hok, hfl⟩
  have n3 := c3.nxt
  have g3 := (c3.get H.nxt (by omega) (by simp; omega)).trans g2
  obtain ⟨v0, w0, Fu, Fr, e, ou, orr, rfl⟩ := sidings_own o3
  simp only [List.cons.injEq, and_true] at e
  obtain ⟨rfl, rfl⟩ := e
  obtain ⟨l6, l1, _⟩ := yardOk_len hok
  obtain ⟨y1, y2⟩ := slc_cell ((rSlc rInt).ownrd ou)
  obtain ⟨x1, x2⟩ := slc_cell ((rSlc (rSlc rInt)).ownrd orr)
  have lw : ∀ H : Heap, vlen H vr = some (.int .i64 rows.length, H) := fun _ => slc_len ((rSlc (rSlc rInt)).ownrd orr)
  simp (maxSteps := 4000000) (disch := omega) only [Zq, evO, vbox, wr, Zeq, if_true, if_false, Nat.reduceEqDiff, Nat.reduceAdd, Nat.reduceLeDiff, Nat.reduceSub, and_self, and_true, true_and, reduceIte, reduceCtorEq, eq_self, implies_true, forall_const, false_implies, imp_self, decide_true, decide_false, fix_nil, fix_cons, g1, g2, g3, y1, y2, x1, x2]
  generalize hG4 : (H3.push [.slice none 0 0, .slice none 0 0]).set H3.nxt [vu, vr] = H4
  have k4 : Keep H3 H4 := by rw [← hG4]; repeat' (first | exact Keep.refl _ | assumption | refine Keep.push' ?_ | refine Keep.set' ?_ ?_ | refine Keep.moved' ?_ ?_ | omega)
  have g4 : H4.get H3.nxt = some (.own [vu, vr]) := by rw [← hG4, Zbi, if_pos rfl]
  have n4 : H4.nxt = H3.nxt + 1 := by rw [← hG4, Zbh, Zbg]
  have g4n := (k4.get H.nxt (by omega)).trans g3
  have kB : Keep H H4 := (u3.chg k4).1
  simp (maxSteps := 4000000) (disch := omega) only [ZD, Zio, Zip, pre_, beq_self_eq_true, Nat.reduceBEq, Zq, evO, vbox, wr, Zeq, if_true, if_false, Nat.reduceEqDiff, Nat.reduceAdd, Nat.reduceLeDiff, Nat.reduceSub, and_self, and_true, true_and, reduceIte, reduceCtorEq, eq_self, implies_true, forall_const, false_implies, imp_self, decide_true, decide_false, fix_nil, fix_cons, g1, g2, g3, g4, g4n, G_dreg, lw]
  refine GD_call ((r_spec_l18DrawShunts hb hl hc (u3.chg k4) kB l1 l6).mono ?_)
  rintro u H5 ⟨c5, u5, ms, Fm, oM, ndM, fM, hm⟩
  have n5 := c5.nxt
  have pl3 := u3.2.2.1
  have old5 : ∀ z, (z ≠ p ∧ z < H4.nxt) → H5.get z = H4.get z := fun z hz => c5.get z hz.2 (by simp; exact hz.1)
  have g5n := (old5 H.nxt (by omega)).trans g4n
  have g5 := (old5 H3.nxt (by omega)).trans g4
  obtain ⟨w1, w2⟩ := slc_cell ((rSlc rShunt).ownrd oM)
  have cup := cu.2.2.1
  have ou5 := (rSlc rInt).ownChg ((rSlc rInt).ownKeep ou k4) c5 (fun a ha hm => by have := f3 a (List.mem_append_left _ ha); simp at hm; omega)
  have or5 := (rSlc (rSlc rInt)).ownChg ((rSlc (rSlc rInt)).ownKeep orr k4) c5 (fun a ha hm => by have := f3 a (List.mem_append_right _ ha); simp at hm; omega)
  simp (maxSteps := 4000000) (disch := omega) only [ZD, Zio, Zip, pre_, beq_self_eq_true, Nat.reduceBEq, Zq, evO, vbox, wr, Zeq, if_true, if_false, Nat.reduceEqDiff, Nat.reduceAdd, Nat.reduceLeDiff, Nat.reduceSub, and_self, and_true, true_and, reduceIte, reduceCtorEq, eq_self, implies_true, forall_const, false_implies, imp_self, decide_true, decide_false, fix_nil, fix_cons, g1, g2, g3, g4, g4n, g5n, g5, y1, y2, x1, x2, w1, w2, lw]
  refine ⟨⟨by rw [Zbh]; omega, fun a ha => ?_⟩, vu, vr, u, room, rows, ms, Fu ++ Fr, rfl, sidings_own' ((rSlc rInt).ownk ou5 (by rw [Zbh]; exact Nat.le_refl _) (fun a ha => by rw [Zbi, if_neg (by have := f3 a (List.mem_append_left _ ha); omega)])) ((rSlc (rSlc rInt)).ownk or5 (by rw [Zbh]; exact Nat.le_refl _) (fun a ha => by rw [Zbi, if_neg (by have := f3 a (List.mem_append_right _ ha); omega)])), (rSlc rShunt).ownrd ((rSlc rShunt).ownk oM (by rw [Zbh]; exact Nat.le_refl _) (fun a ha => by rw [Zbi, if_neg (by have := fM a ha; omega)])), hok, hfl, hm⟩
  rw [Zbi, if_neg (by omega), old5 a (by omega), k4.get a (by omega), c3.get a (by omega) (by simp; omega), k2.get a (by omega), k1.get a ha]
end
end Go.Proofs.Ytiajbefljkikiaa.AX
