/- The program's day: what arrives, leaves and comes next. No condition beyond each law's own; of the program: the functions' forms. -/
import Derived.Test.YtjjglonmaajjoaaPdh
namespace Go.Proofs.Ytjjglonmaajjoaa.AX
open Go
set_option maxRecDepth 10000
set_option maxHeartbeats 4000000
set_option linter.unusedSimpArgs false
set_option linter.unusedVariables false
section
variable {H0 H : Heap} {v w u z : Value} {n : Int} {es : List Ed} {l : List Tp} {la : List Int} {S : Sd} {P : Ps} {q a b c t i k : Nat} {m : Int} {lo : Nat → Int}
theorem leg_nat (d : Dy es l la) (j : JU es l la lo m P S) (hi : i < l.length) (hu : gn P.pa i + 1 < (tp l i).2.length) : ((legE es l P i).toNat : Int) = legE es l P i ∧ (legE es l P i).toNat < es.length := by
  have := d.d4 i _ hi hu
  rw [show lgE es l i (gn P.pa i) = legE es l P i from rfl] at this
  omega
theorem r_edge (d : Dy es l la) (ph : PH H0 H n v w l.length es.length q a b c t P) (he : (rSlc rEdge).rd H0 [v] es) (hr : (rSlc rTrip).rd H0 [w] l) (hi : i < l.length) (hu : gn P.pa i + 1 < (tp l i).2.length) : Run Try.prog 62 [ptr q 0, .int .i64 i, .int .i64 (gn P.pa i)] H fun r' H' => Keep H H' ∧ r' = .int .i64 (legE es l P i).toNat := by
  obtain ⟨R, F, hq, _⟩ := ph.hq
  have h4 := d.d4 i _ hi hu
  rw [show lgE es l i (gn P.pa i) = legE es l P i from rfl] at h4
  have := d.d7
  refine (r_impl_edge (I := .bool true) (n := n) (i := i) (k := gn P.pa i) ((rSlc rEdge).rdk he ph.hk) (by omega) ((rSlc rTrip).rdk hr ph.hk) hq (d.d1 i hi).2 hi hu).mono ?_
  rintro _ H1 ⟨k1, rfl⟩
  exact ⟨k1, by rw [Int.toNat_of_nonneg h4.1]; rfl⟩
theorem r_done (d : Dy es l la) (ph : PH H0 H n v w l.length es.length q a b c t P) (hr : (rSlc rTrip).rd H0 [w] l) (hi : i < l.length) : Run Try.prog 110 [ptr q 0, .int .i64 i] H fun r' H' => Keep H H' ∧ r' = .bool (decide (gn P.pa i + 1 = (tp l i).2.length)) := by
  obtain ⟨R, F, hq, _⟩ := ph.hq
  obtain ⟨wc, hc, fc⟩ := trip_elK hr hi
  have ixw := fun H0 : Heap => slc_idx (r := rTrip) (H1 := H0) (sz := 2) (i := i) (k := .i64) rfl hr hi
  have fxw := fun (H0 : Heap) (o off : Nat) => slc_fad (r := rTrip) (H1 := H0) (sz := 2) (o := o) (off := off) rfl hr hi
  have lc : ∀ H : Heap, vlen H wc = some (.int .i64 (tp l i).2.length, H) := fun _ => slc_len hc
  have ixa := fun H1 : Heap => ix1 (H1 := H1) (a := a) (k := .i64) hi
  have ea := ph.ldA hi
  have h12 := d.d1 i hi
  have hw : IntKind.i64.wrap (((tp l i).2.length : Int) - 1) = ((tp l i).2.length : Int) - 1 := wrap64 (by omega) (by omega)
  rw [plC] at hq
  refine Run.intro c110 rfl ?_
  simp (maxSteps := 4000000) (disch := omega) only [Zq, evO, vbox, wr, Zeq, if_true, if_false, Nat.reduceEqDiff, Nat.reduceAdd, Nat.reduceLeDiff, Nat.reduceSub, and_self, and_true, true_and, reduceIte, reduceCtorEq, eq_self, implies_true, forall_const, false_implies, imp_self, decide_true, decide_false, x110, hq]
  refine G_calm rfl ?_
  by_cases c1 : (gn P.pa i : Int) = ((tp l i).2.length : Int) - 1
  · simp (maxSteps := 4000000) (disch := omega) only [Zq, evO, vbox, wr, Zeq, if_true, if_false, Nat.reduceEqDiff, Nat.reduceAdd, Nat.reduceLeDiff, Nat.reduceSub, and_self, and_true, true_and, reduceIte, reduceCtorEq, eq_self, implies_true, forall_const, false_implies, imp_self, decide_true, decide_false, fix_nil, fix_cons, hq, ixa, ea, ixw, fxw, (fc H ph.hk).2.2, lc, hw, Zfl c1]
    exact ⟨Keep.refl _, by rw [decide_eq_true (by omega)]⟩
  · simp (maxSteps := 4000000) (disch := omega) only [Zq, evO, vbox, wr, Zeq, if_true, if_false, Nat.reduceEqDiff, Nat.reduceAdd, Nat.reduceLeDiff, Nat.reduceSub, and_self, and_true, true_and, reduceIte, reduceCtorEq, eq_self, implies_true, forall_const, false_implies, imp_self, decide_true, decide_false, fix_nil, fix_cons, hq, ixa, ea, ixw, fxw, (fc H ph.hk).2.2, lc, hw, Zfm c1]
    exact Keep.refl _
theorem r_next (d : Dy es l la) (ph : PH H0 H n v w l.length es.length q a b c t P) (hr : (rSlc rTrip).rd H0 [w] l) (hm : -1 ≤ m) : Run Try.prog 90 [ptr q 0, .int .i64 m] H fun r' H' => Keep H H' ∧ r' = .int .i64 (nxT l m P l.length) := by
  obtain ⟨R, F, hq, _⟩ := ph.hq
  have lw : ∀ H : Heap, vlen H w = some (.int .i64 l.length, H) := fun _ => slc_len hr
  have l24 := d.d6
  rw [plC] at hq
  refine Run.intro c90 rfl ?_
  simp (maxSteps := 4000000) (disch := omega) only [Zq, evO, vbox, wr, Zeq, if_true, if_false, Nat.reduceEqDiff, Nat.reduceAdd, Nat.reduceLeDiff, Nat.reduceSub, and_self, and_true, true_and, reduceIte, reduceCtorEq, eq_self, implies_true, forall_const, false_implies, imp_self, decide_true, decide_false, x90, hq, lw]
  refine G_forF [0, 1, 12] (l.length) (fun i T H1 => T 13 = .int .i64 (i : Int) ∧ T 5 = .int .i64 (nxT l m P i) ∧ Keep H H1) 0 (Nat.zero_le _) ?_ ?_
  · simp (maxSteps := 4000000) (disch := omega) only [Zq, evO, vbox, wr, Zeq, if_true, if_false, Nat.reduceEqDiff, Nat.reduceAdd, Nat.reduceLeDiff, Nat.reduceSub, and_self, and_true, true_and, reduceIte, reduceCtorEq, eq_self, implies_true, forall_const, false_implies, imp_self, decide_true, decide_false, fix_nil, fix_cons]
    exact ⟨rfl, Keep.refl _⟩
  rintro i T H1 hi hT ⟨t13, t5, k1⟩
  simp only [fix_nil, fix_cons, Zq, evO, vbox, wr, Zeq, if_true, if_false, Nat.reduceEqDiff, Nat.reduceAdd, Nat.reduceLeDiff, Nat.reduceSub, and_self, and_true, true_and, reduceIte, reduceCtorEq, eq_self, implies_true, forall_const, false_implies, imp_self, decide_true, decide_false] at hT
  obtain ⟨t0, t1, t12⟩ := hT
  have n1 := k1.nxt
  have ph1 := ph.keep k1
  have hqn := ph.hn.1.2
  have hq1 := (k1.get q (by omega)).trans hq
  by_cases hin : i < l.length
  rotate_left
  · obtain rfl : i = l.length := by omega
    simp (maxSteps := 4000000) (disch := omega) only [Zq, evO, vbox, wr, Zeq, if_true, if_false, Nat.reduceEqDiff, Nat.reduceAdd, Nat.reduceLeDiff, Nat.reduceSub, and_self, and_true, true_and, reduceIte, reduceCtorEq, eq_self, implies_true, forall_const, false_implies, imp_self, decide_true, decide_false, fix_nil, fix_cons, t0, t1, t12, t13, t5]
    exact k1
  have ixa := fun H1 : Heap => ix1 (H1 := H1) (a := b) (k := .i64) hin
  have ixc := fun H1 : Heap => ix1 (H1 := H1) (a := c) (k := .i64) hin
  have hth : thn l m P i = if gi P.pe i < 0 ∧ ¬ gn P.pa i + 1 = (tp l i).2.length ∧ m < gi P.pr i then gi P.pr i else gi P.pe i := rfl
  have hnx : nxT l m P (i + 1) = if m < thn l m P i ∧ (nxT l m P i < 0 ∨ thn l m P i < nxT l m P i) then thn l m P i else nxT l m P i := rfl
  simp (maxSteps := 4000000) (disch := omega) only [Zq, evO, vbox, wr, Zeq, if_true, if_false, Nat.reduceEqDiff, Nat.reduceAdd, Nat.reduceLeDiff, Nat.reduceSub, and_self, and_true, true_and, reduceIte, reduceCtorEq, eq_self, implies_true, forall_const, false_implies, imp_self, decide_true, decide_false, fix_nil, fix_cons, t0, t1, t12, t13, t5, hq1, ixc, ph1.ldE hin]
  by_cases c1 : gi P.pe i < 0
  rotate_left
  · have hx : thn l m P i = gi P.pe i := by rw [hth, if_neg (fun h => c1 h.1)]
    simp (maxSteps := 4000000) (disch := omega) only [Zq, evO, vbox, wr, Zeq, if_true, if_false, Nat.reduceEqDiff, Nat.reduceAdd, Nat.reduceLeDiff, Nat.reduceSub, and_self, and_true, true_and, reduceIte, reduceCtorEq, eq_self, implies_true, forall_const, false_implies, imp_self, decide_true, decide_false, fix_nil, fix_cons, t0, t1, t12, t13, t5, Zfi c1]
    rw [hx] at hnx
    by_cases d1 : m < gi P.pe i
    rotate_left
    · simp (maxSteps := 4000000) (disch := omega) only [Zq, evO, vbox, wr, Zeq, if_true, if_false, Nat.reduceEqDiff, Nat.reduceAdd, Nat.reduceLeDiff, Nat.reduceSub, and_self, and_true, true_and, reduceIte, reduceCtorEq, eq_self, implies_true, forall_const, false_implies, imp_self, decide_true, decide_false, fix_nil, fix_cons, t0, t1, t12, t13, t5, Zfi d1]
      exact ⟨hin, by rw [hnx, if_neg (fun h => d1 h.1)], k1⟩
    by_cases d2 : nxT l m P i < 0
    · simp (maxSteps := 4000000) (disch := omega) only [Zq, evO, vbox, wr, Zeq, if_true, if_false, Nat.reduceEqDiff, Nat.reduceAdd, Nat.reduceLeDiff, Nat.reduceSub, and_self, and_true, true_and, reduceIte, reduceCtorEq, eq_self, implies_true, forall_const, false_implies, imp_self, decide_true, decide_false, fix_nil, fix_cons, t0, t1, t12, t13, t5, Zfh d1, Zfh d2]
      exact ⟨hin, by rw [hnx, if_pos ⟨d1, .inl d2⟩], k1⟩
    by_cases d3 : gi P.pe i < nxT l m P i
    · simp (maxSteps := 4000000) (disch := omega) only [Zq, evO, vbox, wr, Zeq, if_true, if_false, Nat.reduceEqDiff, Nat.reduceAdd, Nat.reduceLeDiff, Nat.reduceSub, and_self, and_true, true_and, reduceIte, reduceCtorEq, eq_self, implies_true, forall_const, false_implies, imp_self, decide_true, decide_false, fix_nil, fix_cons, t0, t1, t12, t13, t5, Zfh d1, Zfi d2, Zfh d3]
      exact ⟨hin, by rw [hnx, if_pos ⟨d1, .inr d3⟩], k1⟩
    · simp (maxSteps := 4000000) (disch := omega) only [Zq, evO, vbox, wr, Zeq, if_true, if_false, Nat.reduceEqDiff, Nat.reduceAdd, Nat.reduceLeDiff, Nat.reduceSub, and_self, and_true, true_and, reduceIte, reduceCtorEq, eq_self, implies_true, forall_const, false_implies, imp_self, decide_true, decide_false, fix_nil, fix_cons, t0, t1, t12, t13, t5, Zfh d1, Zfi d2, Zfi d3]
      exact ⟨hin, by rw [hnx, if_neg (fun h => h.2.elim d2 d3)], k1⟩
  simp (maxSteps := 4000000) (disch := omega) only [Zq, evO, vbox, wr, Zeq, if_true, if_false, Nat.reduceEqDiff, Nat.reduceAdd, Nat.reduceLeDiff, Nat.reduceSub, and_self, and_true, true_and, reduceIte, reduceCtorEq, eq_self, implies_true, forall_const, false_implies, imp_self, decide_true, decide_false, fix_nil, fix_cons, t0, t1, t12, t13, t5, Zfh c1]
  refine GO_call_eq (by (simp (maxSteps := 4000000) (disch := omega) only [Zq, evO, vbox, wr, Zeq, if_true, if_false, Nat.reduceEqDiff, Nat.reduceAdd, Nat.reduceLeDiff, Nat.reduceSub, and_self, and_true, true_and, reduceIte, reduceCtorEq, eq_self, implies_true, forall_const, false_implies, imp_self, decide_true, decide_false, fix_nil, fix_cons, t0, t1, t12, t13, t5]) <;> rfl) ((r_done d ph1 hr hin).mono ?_)
  rintro _ H2 ⟨k2, rfl⟩
  have n2 := k2.nxt
  have g2 := (k2.get (q) (by omega)).trans hq1
  have k12 := k1.trans k2
  have ph2 := ph.keep k12
  by_cases c2 : gn P.pa i + 1 = (tp l i).2.length
  · have hx : thn l m P i = gi P.pe i := by rw [hth, if_neg (fun h => h.2.1 c2)]
    rw [decide_eq_true c2]
    simp (maxSteps := 4000000) (disch := omega) only [Zq, evO, vbox, wr, Zeq, if_true, if_false, Nat.reduceEqDiff, Nat.reduceAdd, Nat.reduceLeDiff, Nat.reduceSub, and_self, and_true, true_and, reduceIte, reduceCtorEq, eq_self, implies_true, forall_const, false_implies, imp_self, decide_true, decide_false, fix_nil, fix_cons, t0, t1, t12, t13, t5, g2]
    exact ⟨hin, by rw [hnx, hx, if_neg (fun h => by omega)], k12⟩
  rw [decide_eq_false c2]
  by_cases c3 : m < gi P.pr i
  · have hx : thn l m P i = gi P.pr i := by rw [hth, if_pos ⟨c1, c2, c3⟩]
    simp (maxSteps := 4000000) (disch := omega) only [Zq, evO, vbox, wr, Zeq, if_true, if_false, Nat.reduceEqDiff, Nat.reduceAdd, Nat.reduceLeDiff, Nat.reduceSub, and_self, and_true, true_and, reduceIte, reduceCtorEq, eq_self, implies_true, forall_const, false_implies, imp_self, decide_true, decide_false, fix_nil, fix_cons, t0, t1, t12, t13, t5, g2, ixa, ph2.ldR hin, Zfh c3]
    rw [hx] at hnx
    have d1 := c3
    by_cases d2 : nxT l m P i < 0
    · simp (maxSteps := 4000000) (disch := omega) only [Zq, evO, vbox, wr, Zeq, if_true, if_false, Nat.reduceEqDiff, Nat.reduceAdd, Nat.reduceLeDiff, Nat.reduceSub, and_self, and_true, true_and, reduceIte, reduceCtorEq, eq_self, implies_true, forall_const, false_implies, imp_self, decide_true, decide_false, fix_nil, fix_cons, t0, t1, t12, t13, t5, g2, Zfh d1, Zfh d2]
      exact ⟨hin, by rw [hnx, if_pos ⟨d1, .inl d2⟩], k12⟩
    by_cases d3 : gi P.pr i < nxT l m P i
    · simp (maxSteps := 4000000) (disch := omega) only [Zq, evO, vbox, wr, Zeq, if_true, if_false, Nat.reduceEqDiff, Nat.reduceAdd, Nat.reduceLeDiff, Nat.reduceSub, and_self, and_true, true_and, reduceIte, reduceCtorEq, eq_self, implies_true, forall_const, false_implies, imp_self, decide_true, decide_false, fix_nil, fix_cons, t0, t1, t12, t13, t5, g2, Zfh d1, Zfi d2, Zfh d3]
      exact ⟨hin, by rw [hnx, if_pos ⟨d1, .inr d3⟩], k12⟩
    · simp (maxSteps := 4000000) (disch := omega) only [Zq, evO, vbox, wr, Zeq, if_true, if_false, Nat.reduceEqDiff, Nat.reduceAdd, Nat.reduceLeDiff, Nat.reduceSub, and_self, and_true, true_and, reduceIte, reduceCtorEq, eq_self, implies_true, forall_const, false_implies, imp_self, decide_true, decide_false, fix_nil, fix_cons, t0, t1, t12, t13, t5, g2, Zfh d1, Zfi d2, Zfi d3]
      exact ⟨hin, by rw [hnx, if_neg (fun h => h.2.elim d2 d3)], k12⟩
  · have hx : thn l m P i = gi P.pe i := by rw [hth, if_neg (fun h => c3 h.2.2)]
    simp (maxSteps := 4000000) (disch := omega) only [Zq, evO, vbox, wr, Zeq, if_true, if_false, Nat.reduceEqDiff, Nat.reduceAdd, Nat.reduceLeDiff, Nat.reduceSub, and_self, and_true, true_and, reduceIte, reduceCtorEq, eq_self, implies_true, forall_const, false_implies, imp_self, decide_true, decide_false, fix_nil, fix_cons, t0, t1, t12, t13, t5, g2, ixa, ph2.ldR hin, Zfi c3]
    exact ⟨hin, by rw [hnx, hx, if_neg (fun h => by omega)], k12⟩
end
end Go.Proofs.Ytjjglonmaajjoaa.AX
