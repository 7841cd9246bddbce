/- The program's day: who arrives. No condition beyond each law's own; of the program: the functions' forms. -/
import Derived.Test.YtjjglonmaajjoaaPdi
namespace Go.Proofs.Ytjjglonmaajjoaa.AX
open Go
set_option maxRecDepth 10000
set_option maxHeartbeats 4000000
set_option linter.unusedSimpArgs false
set_option linter.unusedVariables false
theorem vmm_max {H : Heap} {a b : Int} : vmm H true (.int .i64 a) (.int .i64 b) = some (.int .i64 (max a b), H) := by
  have e : (if b > a then b else a) = max a b := by split <;> omega
  rw [vmm, if_pos rfl, if_pos rfl, e]
section
variable {H0 H : Heap} {v w u z : Value} {n : Int} {es : List Ed} {l : List Tp} {la : List Int} {S : Sd} {P : Ps} {q a b c t i k : Nat} {m : Int} {lo : Nat → Int}
theorem r_arrive (d : Dy es l la) (ph : PH H0 H n v w l.length es.length q a b c t P) (he : (rSlc rEdge).rd H0 [v] es) (hr : (rSlc rTrip).rd H0 [w] l) (h0 : 0 ≤ m) (hm : m ≤ 27000000) (hj : ∀ i, i ≤ l.length → JU es l la (fun k => if k < i then m + 1 else m) m (arrT es l m P i) S) : Run Try.prog 91 [ptr q 0, .int .i64 m] H fun r' H' => PH H0 H' n v w l.length es.length q a b c t (arrT es l m P l.length) := by
  obtain ⟨R, F, hq, _⟩ := ph.hq
  have lw : ∀ H : Heap, vlen H w = some (.int .i64 l.length, H) := fun _ => slc_len hr
  have l24 := d.d6
  rw [plC] at hq
  refine Run.intro c91 rfl ?_
  simp (maxSteps := 4000000) (disch := omega) only [Zq, evO, vbox, wr, Zeq, if_true, if_false, Nat.reduceEqDiff, Nat.reduceAdd, Nat.reduceLeDiff, Nat.reduceSub, and_self, and_true, true_and, reduceIte, reduceCtorEq, eq_self, implies_true, forall_const, false_implies, imp_self, decide_true, decide_false, x91, hq, lw]
  refine G_forF [0, 1, 9] (l.length) (fun i T H1 => T 10 = .int .i64 (i : Int) ∧ PH H0 H1 n v w l.length es.length q a b c t (arrT es l m P i)) 0 (Nat.zero_le _) ?_ ?_
  · simp (maxSteps := 4000000) (disch := omega) only [Zq, evO, vbox, wr, Zeq, if_true, if_false, Nat.reduceEqDiff, Nat.reduceAdd, Nat.reduceLeDiff, Nat.reduceSub, and_self, and_true, true_and, reduceIte, reduceCtorEq, eq_self, implies_true, forall_const, false_implies, imp_self, decide_true, decide_false, fix_nil, fix_cons]
    exact ph
  rintro i T H1 hi hT ⟨t10, ph1⟩
  simp only [fix_nil, fix_cons, Zq, evO, vbox, wr, Zeq, if_true, if_false, Nat.reduceEqDiff, Nat.reduceAdd, Nat.reduceLeDiff, Nat.reduceSub, and_self, and_true, true_and, reduceIte, reduceCtorEq, eq_self, implies_true, forall_const, false_implies, imp_self, decide_true, decide_false] at hT
  obtain ⟨t0, t1, t9⟩ := hT
  by_cases hin : i < l.length
  rotate_left
  · obtain rfl : i = l.length := by omega
    simp (maxSteps := 4000000) (disch := omega) only [Zq, evO, vbox, wr, Zeq, if_true, if_false, Nat.reduceEqDiff, Nat.reduceAdd, Nat.reduceLeDiff, Nat.reduceSub, and_self, and_true, true_and, reduceIte, reduceCtorEq, eq_self, implies_true, forall_const, false_implies, imp_self, decide_true, decide_false, fix_nil, fix_cons, t0, t1, t9, t10]
    exact ph1
  have j1 := hj i hi
  have hstep : arrT es l m P (i + 1) = arr1 es l m (arrT es l m P i) i := rfl
  rw [hstep]
  generalize arrT es l m P i = P1 at ph1 j1
  obtain ⟨R1, F1, g1, _⟩ := ph1.hq
  rw [plC] at g1
  have ixa := fun H1 : Heap => ix1 (H1 := H1) (a := a) (k := .i64) hin
  have ixb := fun H1 : Heap => ix1 (H1 := H1) (a := b) (k := .i64) hin
  have ixc := fun H1 : Heap => ix1 (H1 := H1) (a := c) (k := .i64) hin
  by_cases c1 : gi P1.pe i = m
  rotate_left
  · simp (maxSteps := 4000000) (disch := omega) only [Zq, evO, vbox, wr, Zeq, if_true, if_false, Nat.reduceEqDiff, Nat.reduceAdd, Nat.reduceLeDiff, Nat.reduceSub, and_self, and_true, true_and, reduceIte, reduceCtorEq, eq_self, implies_true, forall_const, false_implies, imp_self, decide_true, decide_false, fix_nil, fix_cons, t0, t1, t9, t10, g1, g1, ixc, ph1.ldE hin, Zfm c1]
    rw [arr1, if_neg c1]
    exact ⟨hin, ph1⟩
  have hlg := j1.leg d hin (.inl (by omega))
  obtain ⟨hE, hEl⟩ := leg_nat d j1 hin hlg
  rw [arr1, if_pos c1]
  simp (maxSteps := 4000000) (disch := omega) only [Zq, evO, vbox, wr, Zeq, if_true, if_false, Nat.reduceEqDiff, Nat.reduceAdd, Nat.reduceLeDiff, Nat.reduceSub, and_self, and_true, true_and, reduceIte, reduceCtorEq, eq_self, implies_true, forall_const, false_implies, imp_self, decide_true, decide_false, fix_nil, fix_cons, t0, t1, t9, t10, g1, g1, ixc, ph1.ldE hin, Zfl c1]
  obtain ⟨⟨q1, q2⟩, ⟨a1, a2⟩, ⟨b1, b2⟩, ⟨c1', c2'⟩, ⟨u1, u2⟩⟩ := ph1.hn
  obtain ⟨d1, d2, d3, d4, d5, d6, d7, d8, d9, d10⟩ := ph1.hd
  simp (maxSteps := 4000000) (disch := omega) only [ZD, Zio, Zip, pre_, beq_self_eq_true, Nat.reduceBEq, Zq, evO, vbox, wr, Zeq, if_true, if_false, Nat.reduceEqDiff, Nat.reduceAdd, Nat.reduceLeDiff, Nat.reduceSub, and_self, and_true, true_and, reduceIte, reduceCtorEq, eq_self, implies_true, forall_const, false_implies, imp_self, decide_true, decide_false, fix_nil, fix_cons, t0, t1, t9, t10, g1, G_dreg, ixa, ph1.ldA hin]
  refine GD_call ((r_edge d ph1 he hr hin hlg).mono ?_)
  rintro _ H2 ⟨k2, rfl⟩
  have n2 := k2.nxt
  have ph2 := ph1.keep k2
  have g2 := (k2.get q q2).trans g1
  have h12 := d.d1 i hin
  obtain ⟨H3, e3, ph3, n3, get3⟩ := ph2.stT hEl false
  have ixt := fun H1 : Heap => ix1 (H1 := H1) (a := t) (k := .i64) hEl
  simp (maxSteps := 4000000) (disch := omega) only [ZD, Zio, Zip, pre_, beq_self_eq_true, Nat.reduceBEq, Zq, evO, vbox, wr, Zeq, if_true, if_false, Nat.reduceEqDiff, Nat.reduceAdd, Nat.reduceLeDiff, Nat.reduceSub, and_self, and_true, true_and, reduceIte, reduceCtorEq, eq_self, implies_true, forall_const, false_implies, imp_self, decide_true, decide_false, fix_nil, fix_cons, t0, t1, t9, t10, g1, g2, ixt, e3, tr1]
  first | with_reducible refine And.intro (by repeat' (first | apply And.intro | omega | exact k2.get _ (by omega) | exact get3 _ (by omega))) ?_ | skip
  have g3 := (get3 q d4).trans g2
  have ea3 := ph3.ldA hin
  obtain ⟨H4, e4, ph4, n4, get4⟩ := ph3.stE hin (-1)
  have g4 := (get4 q d3).trans g3
  have hw : IntKind.i64.wrap ((gn P1.pa i : Int) + 1) = ((gn P1.pa i + 1 : Nat) : Int) := by rw [wrap64 (by omega) (by omega)]; omega
  have ea4 := ph4.ldA hin
  obtain ⟨H5, e5, ph5, n5, get5⟩ := ph4.stA hin (gn P1.pa i + 1)
  have g5 := (get5 q d1).trans g4
  have ea5 := ph5.ldA hin
  simp only [] at ea3 ea4 ea5
  rw [gn_set (by rw [ph1.la]; exact hin), if_pos rfl] at ea5
  simp (maxSteps := 4000000) (disch := omega) only [Zq, evO, vbox, wr, Zeq, if_true, if_false, Nat.reduceEqDiff, Nat.reduceAdd, Nat.reduceLeDiff, Nat.reduceSub, and_self, and_true, true_and, reduceIte, reduceCtorEq, eq_self, implies_true, forall_const, false_implies, imp_self, decide_true, decide_false, fix_nil, fix_cons, t0, t1, t9, t10, g1, g2, g3, g4, g5, g3, ixc, e4, g4, ixa, ea4, hw, e5]
  refine G_tame rfl ?_
  obtain ⟨wc, hc, fc⟩ := trip_elK hr hin
  have ixw := fun H0 : Heap => slc_idx (r := rTrip) (H1 := H0) (sz := 2) (i := i) (k := .i64) rfl hr hin
  have fxw := fun (H0 : Heap) (o off : Nat) => slc_fad (r := rTrip) (H1 := H0) (sz := 2) (o := o) (off := off) rfl hr hin
  have ixp := fun H0 : Heap => slc_idx (r := rCall) (H1 := H0) (sz := 3) (i := gn P1.pa i + 1) (k := .i64) rfl hc hlg
  have fxp := fun (H0 : Heap) (o off : Nat) => slc_fad (r := rCall) (H1 := H0) (sz := 3) (i := gn P1.pa i + 1) (o := o) (off := off) rfl hc hlg
  have e6 := (call_el ((rSlc rCall).rdk hc ph5.hk) hlg).2.2.2
  rw [show (cl (tp l i).2 (gn P1.pa i + 1)).2.2 = dp l i (gn P1.pa i + 1) from rfl] at e6
  obtain ⟨H7, e7, ph7, n7, get7⟩ := ph5.stR hin (max (dp l i (gn P1.pa i + 1)) m)
  simp (maxSteps := 4000000) (disch := omega) only [Zq, evO, vbox, wr, Zeq, if_true, if_false, Nat.reduceEqDiff, Nat.reduceAdd, Nat.reduceLeDiff, Nat.reduceSub, and_self, and_true, true_and, reduceIte, reduceCtorEq, eq_self, implies_true, forall_const, false_implies, imp_self, decide_true, decide_false, fix_nil, fix_cons, t0, t1, t9, t10, g1, g2, g3, g4, g5, g5, ixa, ea5, ixb, ixw, fxw, (fc H5 ph5.hk).2.2, ixp, fxp, e6, vmm_max, e7]
  exact ⟨hin, ph7⟩
end
end Go.Proofs.Ytjjglonmaajjoaa.AX
