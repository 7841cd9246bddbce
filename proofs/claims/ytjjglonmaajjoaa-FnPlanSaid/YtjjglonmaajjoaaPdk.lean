/- The program's day: who leaves. No condition beyond each law's own; of the program: the functions' forms. -/
import Derived.Test.YtjjglonmaajjoaaPdi
namespace Go.Proofs.Ytjjglonmaajjoaa.AX
open Go
set_option maxRecDepth 10000
set_option maxHeartbeats 4000000
set_option linter.unusedSimpArgs false
set_option linter.unusedVariables false
section
variable {H0 H : Heap} {v w u z : Value} {n : Int} {es : List Ed} {l : List Tp} {la : List Int} {S : Sd} {P : Ps} {q a b c t i k : Nat} {m : Int} {lo : Nat → Int}
theorem r_leave (d : Dy es l la) (ph : PH H0 H n v w l.length es.length q a b c t P) (he : (rSlc rEdge).rd H0 [v] es) (hr : (rSlc rTrip).rd H0 [w] l) (h0 : 0 ≤ m) (hm : m ≤ 27000000) (hj : ∀ i, i ≤ l.length → ∃ S, JU es l la (fun _ => m + 1) m (lvT es l m P i) S) : Run Try.prog 92 [ptr q 0, .int .i64 m] H fun r' H' => PH H0 H' n v w l.length es.length q a b c t (lvT es l m P l.length) := by
  obtain ⟨R, F, hq, _⟩ := ph.hq
  have lw : ∀ H : Heap, vlen H w = some (.int .i64 l.length, H) := fun _ => slc_len hr
  have l24 := d.d6
  obtain ⟨csw, slw⟩ := slc_sl (sz := 2) (r := rTrip) rfl hr
  rw [plC] at hq
  refine Run.intro c92 rfl ?_
  simp (maxSteps := 4000000) (disch := omega) only [Zq, evO, vbox, wr, Zeq, if_true, if_false, Nat.reduceEqDiff, Nat.reduceAdd, Nat.reduceLeDiff, Nat.reduceSub, and_self, and_true, true_and, reduceIte, reduceCtorEq, eq_self, implies_true, forall_const, false_implies, imp_self, decide_true, decide_false, x92, hq, lw]
  refine G_forF [0, 1, 11, 12] (l.length) (fun i T H1 => T 13 = .int .i64 (i : Int) ∧ PH H0 H1 n v w l.length es.length q a b c t (lvT es l m P i)) 0 (Nat.zero_le _) ?_ ?_
  · simp (maxSteps := 4000000) (disch := omega) only [Zq, evO, vbox, wr, Zeq, if_true, if_false, Nat.reduceEqDiff, Nat.reduceAdd, Nat.reduceLeDiff, Nat.reduceSub, and_self, and_true, true_and, reduceIte, reduceCtorEq, eq_self, implies_true, forall_const, false_implies, imp_self, decide_true, decide_false, fix_nil, fix_cons]
    exact ph
  rintro i T H1 hi hT ⟨t13, ph1⟩
  simp only [fix_nil, fix_cons, Zq, evO, vbox, wr, Zeq, if_true, if_false, Nat.reduceEqDiff, Nat.reduceAdd, Nat.reduceLeDiff, Nat.reduceSub, and_self, and_true, true_and, reduceIte, reduceCtorEq, eq_self, implies_true, forall_const, false_implies, imp_self, decide_true, decide_false] at hT
  obtain ⟨t0, t1, t11, t12⟩ := hT
  by_cases hin : i < l.length
  rotate_left
  · obtain rfl : i = l.length := by omega
    simp (maxSteps := 4000000) (disch := omega) only [Zq, evO, vbox, wr, Zeq, if_true, if_false, Nat.reduceEqDiff, Nat.reduceAdd, Nat.reduceLeDiff, Nat.reduceSub, and_self, and_true, true_and, reduceIte, reduceCtorEq, eq_self, implies_true, forall_const, false_implies, imp_self, decide_true, decide_false, fix_nil, fix_cons, t0, t1, t11, t12, t13]
    exact ph1
  obtain ⟨S1, j1⟩ := hj i hi
  have hstep : lvT es l m P (i + 1) = lv1 es l m (lvT es l m P i) i := rfl
  rw [hstep]
  generalize lvT es l m P i = P1 at ph1 j1
  have hst : stay es l m P1 i = (decide (gn P1.pa i + 1 = (tp l i).2.length) || (decide (0 ≤ gi P1.pe i) || (decide (m < gi P1.pr i) || gb P1.pt (legE es l P1 i).toNat))) := rfl
  obtain ⟨R1, F1, g1, _⟩ := ph1.hq
  rw [plC] at g1
  obtain ⟨⟨q1, q2⟩, ⟨a1, a2⟩, ⟨b1, b2⟩, ⟨c1', c2'⟩, ⟨u1, u2⟩⟩ := ph1.hn
  obtain ⟨d1, d2, d3, d4, d5, d6, d7, d8, d9, d10⟩ := ph1.hd
  have ixa := fun H1 : Heap => ix1 (H1 := H1) (a := a) (k := .i64) hin
  have ixb := fun H1 : Heap => ix1 (H1 := H1) (a := b) (k := .i64) hin
  have ixc := fun H1 : Heap => ix1 (H1 := H1) (a := c) (k := .i64) hin
  obtain ⟨wc, hc, fc⟩ := trip_elK hr hin
  have ixw := fun H0 : Heap => slc_idx (r := rTrip) (H1 := H0) (sz := 2) (i := i) (k := .i64) rfl hr hin
  have h12 := d.d1 i hin
  obtain ⟨cc, slc⟩ := slc_sl (sz := 3) (r := rCall) rfl hc
  have nc := Sl.noTup_ slc
  have vc := Sl.cells_ slc
  simp (maxSteps := 4000000) (disch := omega) only [Zq, evO, vbox, wr, Zeq, if_true, if_false, Nat.reduceEqDiff, Nat.reduceAdd, Nat.reduceLeDiff, Nat.reduceSub, and_self, and_true, true_and, reduceIte, reduceCtorEq, eq_self, implies_true, forall_const, false_implies, imp_self, decide_true, decide_false, fix_nil, fix_cons, t0, t1, t11, t12, t13, g1, ixw, (fc H1 ph1.hk).1, nc, vc]
  generalize hG2 : (H1.push [.string ⟨#[]⟩, .slice none 0 0]).set H1.nxt [.string (tp l i).1, wc] = H2
  have k2 : Keep H1 H2 := by rw [← hG2]; repeat' (first | exact Keep.refl _ | assumption | refine Keep.push' ?_ | refine Keep.set' ?_ ?_ | refine Keep.moved' ?_ ?_ | omega)
  have g2 : H2.get H1.nxt = some (.own [.string (tp l i).1, wc]) := by rw [← hG2, Zbi, if_pos rfl]
  have n2 : H2.nxt = H1.nxt + 1 := by rw [← hG2, Zbh, Zbg]
  have ph2 := ph1.keep k2
  have g2q := (k2.get q q2).trans g1
  refine GO_call_eq (by (simp (maxSteps := 4000000) (disch := omega) only [Zq, evO, vbox, wr, Zeq, if_true, if_false, Nat.reduceEqDiff, Nat.reduceAdd, Nat.reduceLeDiff, Nat.reduceSub, and_self, and_true, true_and, reduceIte, reduceCtorEq, eq_self, implies_true, forall_const, false_implies, imp_self, decide_true, decide_false, fix_nil, fix_cons, t0, t1, t11, t12, t13, g1, g2, g2q]) <;> rfl) ((r_done d ph2 hr hin).mono ?_)
  rintro _ H3 ⟨k3, rfl⟩
  have n3 := k3.nxt
  have g3 := (k3.get (H1.nxt) (by omega)).trans g2
  have g3q := (k3.get (q) (by omega)).trans g2q
  have ph3 := ph2.keep k3
  by_cases c1 : gn P1.pa i + 1 = (tp l i).2.length
  · rw [decide_eq_true c1] at hst ⊢
    simp (maxSteps := 4000000) (disch := omega) only [Zq, evO, vbox, wr, Zeq, if_true, if_false, Nat.reduceEqDiff, Nat.reduceAdd, Nat.reduceLeDiff, Nat.reduceSub, and_self, and_true, true_and, reduceIte, reduceCtorEq, eq_self, implies_true, forall_const, false_implies, imp_self, decide_true, decide_false, fix_nil, fix_cons, t0, t1, t11, t12, t13, g1, g2, g2q, g3, g3q]
    rw [lv1, hst, Bool.true_or, if_pos rfl]
    exact ⟨hin, ph3⟩
  rw [decide_eq_false c1] at hst ⊢
  by_cases c2 : 0 ≤ gi P1.pe i
  · rw [decide_eq_true c2] at hst
    simp (maxSteps := 4000000) (disch := omega) only [Zq, evO, vbox, wr, Zeq, if_true, if_false, Nat.reduceEqDiff, Nat.reduceAdd, Nat.reduceLeDiff, Nat.reduceSub, and_self, and_true, true_and, reduceIte, reduceCtorEq, eq_self, implies_true, forall_const, false_implies, imp_self, decide_true, decide_false, fix_nil, fix_cons, t0, t1, t11, t12, t13, g1, g2, g2q, g3, g3q, ixc, ph3.ldE hin, Zfj c2]
    rw [lv1, hst, Bool.true_or, Bool.or_true, if_pos rfl]
    exact ⟨hin, ph3⟩
  rw [decide_eq_false c2] at hst
  by_cases c3 : m < gi P1.pr i
  · rw [decide_eq_true c3] at hst
    simp (maxSteps := 4000000) (disch := omega) only [Zq, evO, vbox, wr, Zeq, if_true, if_false, Nat.reduceEqDiff, Nat.reduceAdd, Nat.reduceLeDiff, Nat.reduceSub, and_self, and_true, true_and, reduceIte, reduceCtorEq, eq_self, implies_true, forall_const, false_implies, imp_self, decide_true, decide_false, fix_nil, fix_cons, t0, t1, t11, t12, t13, g1, g2, g2q, g3, g3q, ixc, ph3.ldE hin, Zfk c2, ixb, ph3.ldR hin, Zfh c3]
    rw [lv1, hst, Bool.true_or, Bool.or_true, Bool.or_true, if_pos rfl]
    exact ⟨hin, ph3⟩
  rw [decide_eq_false c3, Bool.false_or, Bool.false_or, Bool.false_or] at hst
  have hlg : gn P1.pa i + 1 < (tp l i).2.length := by
    have := j1.jg.gk i hin
    rcases j1.ju i hin with h | h
    · omega
    · omega
  obtain ⟨hE, hEl⟩ := leg_nat d j1 hin hlg
  simp (maxSteps := 4000000) (disch := omega) only [Zq, evO, vbox, wr, Zeq, if_true, if_false, Nat.reduceEqDiff, Nat.reduceAdd, Nat.reduceLeDiff, Nat.reduceSub, and_self, and_true, true_and, reduceIte, reduceCtorEq, eq_self, implies_true, forall_const, false_implies, imp_self, decide_true, decide_false, fix_nil, fix_cons, t0, t1, t11, t12, t13, g1, g2, g2q, g3, g3q, ixc, ph3.ldE hin, Zfk c2, ixb, ph3.ldR hin, Zfi c3, ixa, ph3.ldA hin]
  refine GO_call_eq (by (simp (maxSteps := 4000000) (disch := omega) only [Zq, evO, vbox, wr, Zeq, if_true, if_false, Nat.reduceEqDiff, Nat.reduceAdd, Nat.reduceLeDiff, Nat.reduceSub, and_self, and_true, true_and, reduceIte, reduceCtorEq, eq_self, implies_true, forall_const, false_implies, imp_self, decide_true, decide_false, fix_nil, fix_cons, t0, t1, t11, t12, t13, g1, g2, g2q, g3, g3q]) <;> rfl) ((r_edge d ph3 he hr hin hlg).mono ?_)
  rintro _ H4 ⟨k4, rfl⟩
  have n4 := k4.nxt
  have g4 := (k4.get (H1.nxt) (by omega)).trans g3
  have g4q := (k4.get (q) (by omega)).trans g3q
  have ph4 := ph3.keep k4
  have ixt := fun H1 : Heap => ix1 (H1 := H1) (a := t) (k := .i64) hEl
  cases c4 : gb P1.pt (legE es l P1 i).toNat with
  | true =>
    simp (maxSteps := 4000000) (disch := omega) only [Zq, evO, vbox, wr, Zeq, if_true, if_false, Nat.reduceEqDiff, Nat.reduceAdd, Nat.reduceLeDiff, Nat.reduceSub, and_self, and_true, true_and, reduceIte, reduceCtorEq, eq_self, implies_true, forall_const, false_implies, imp_self, decide_true, decide_false, fix_nil, fix_cons, t0, t1, t11, t12, t13, g1, g2, g2q, g3, g3q, g4, g4q, ixt, ph4.ldT hEl, c4]
    rw [lv1, hst, c4, if_pos rfl]
    exact ⟨hin, ph4⟩
  | false =>
  rw [lv1, hst, c4, if_neg (by simp)]
  obtain ⟨H5, e5, ph5, n5, get5⟩ := ph4.stT hEl true
  simp (maxSteps := 4000000) (disch := omega) only [Zq, evO, vbox, wr, Zeq, if_true, if_false, Nat.reduceEqDiff, Nat.reduceAdd, Nat.reduceLeDiff, Nat.reduceSub, and_self, and_true, true_and, reduceIte, reduceCtorEq, eq_self, implies_true, forall_const, false_implies, imp_self, decide_true, decide_false, fix_nil, fix_cons, t0, t1, t11, t12, t13, g1, g2, g2q, g3, g3q, g4, g4q, ixt, ph4.ldT hEl, c4, e5]
  first | refine G_fix [0, 1, 4, 5, 6, 11, 12, 13] ?_ | refine GO_fix [0, 1, 4, 5, 6, 11, 12, 13] ?_ | refine cK_fix [0, 1, 4, 5, 6, 11, 12, 13] ?_
  intro T hT
  simp only [fix_nil, fix_cons, Zq, evO, vbox, wr, Zeq, if_true, if_false, Nat.reduceEqDiff, Nat.reduceAdd, Nat.reduceLeDiff, Nat.reduceSub, and_self, and_true, true_and, reduceIte, reduceCtorEq, eq_self, implies_true, forall_const, false_implies, imp_self, decide_true, decide_false, t0, t1, t11, t12, t13] at hT
  obtain ⟨t0, t1, t4, t5, t6, t11, t12, t13⟩ := hT
  have g5q := (get5 q d4).trans g4q
  have g5 := (get5 H1.nxt (by omega)).trans g4
  have ixp := fun H0 : Heap => slc_idx (r := rCall) (H1 := H0) (sz := 3) (i := gn P1.pa i) (k := .i64) rfl hc (by omega)
  have fxp := fun (H0 : Heap) (o off : Nat) => slc_fad (r := rCall) (H1 := H0) (sz := 3) (i := gn P1.pa i) (o := o) (off := off) rfl hc (by omega)
  have ixn := fun H0 : Heap => slc_idx (r := rCall) (H1 := H0) (sz := 3) (i := gn P1.pa i + 1) (k := .i64) rfl hc hlg
  have fxn := fun (H0 : Heap) (o off : Nat) => slc_fad (r := rCall) (H1 := H0) (sz := 3) (i := gn P1.pa i + 1) (o := o) (off := off) rfl hc hlg
  have x1 := (call_el (i := gn P1.pa i) ((rSlc rCall).rdk hc ph5.hk) (by omega)).2.2.2
  have x2 := (call_el ((rSlc rCall).rdk hc ph5.hk) hlg).2.2.1
  rw [show (cl (tp l i).2 (gn P1.pa i)).2.2 = dp l i (gn P1.pa i) from rfl] at x1
  rw [show (cl (tp l i).2 (gn P1.pa i + 1)).2.1 = av l i (gn P1.pa i + 1) from rfl] at x2
  have hb1 := d.d2 i (gn P1.pa i) hin (by omega)
  have hb2 := d.d2 i (gn P1.pa i + 1) hin hlg
  have hw1 : IntKind.i64.wrap ((gn P1.pa i : Int) + 1) = ((gn P1.pa i + 1 : Nat) : Int) := by rw [wrap64 (by omega) (by omega)]; omega
  have hw2 : IntKind.i64.wrap (m + av l i (gn P1.pa i + 1)) = m + av l i (gn P1.pa i + 1) := wrap64 (by omega) (by omega)
  have hw3 : IntKind.i64.wrap (m + av l i (gn P1.pa i + 1) - dp l i (gn P1.pa i)) = endT l m P1 i := wrap64 (by omega) (by omega)
  obtain ⟨H6, e6, ph6, n6, get6⟩ := ph5.stE hin (endT l m P1 i)
  refine G_tame rfl ?_
  simp (maxSteps := 4000000) (disch := omega) only [Zq, evO, vbox, wr, Zeq, if_true, if_false, Nat.reduceEqDiff, Nat.reduceAdd, Nat.reduceLeDiff, Nat.reduceSub, and_self, and_true, true_and, reduceIte, reduceCtorEq, eq_self, implies_true, forall_const, false_implies, imp_self, decide_true, decide_false, fix_nil, fix_cons, t0, t1, t11, t12, t13, g1, g2, g2q, g3, g3q, g4, g4q, t4, t5, t6, g5q, g5, ixn, fxn, x2, hw1, hw2, ixp, fxp, x1, hw3, ixc, e6]
  first | refine G_fix [0, 1, 4, 6, 11, 12, 13] ?_ | refine GO_fix [0, 1, 4, 6, 11, 12, 13] ?_ | refine cK_fix [0, 1, 4, 6, 11, 12, 13] ?_
  intro T hT
  simp only [fix_nil, fix_cons, Zq, evO, vbox, wr, Zeq, if_true, if_false, Nat.reduceEqDiff, Nat.reduceAdd, Nat.reduceLeDiff, Nat.reduceSub, and_self, and_true, true_and, reduceIte, reduceCtorEq, eq_self, implies_true, forall_const, false_implies, imp_self, decide_true, decide_false, t0, t1, t11, t12, t13, t4, t5, t6] at hT
  obtain ⟨t0, t1, t4, t6, t11, t12, t13⟩ := hT
  have g6q := (get6 q d3).trans g5q
  have g6 := (get6 H1.nxt (by omega)).trans g5
  have lE6 := ph6.ldE hin
  have lR6 := ph6.ldR hin
  simp only [] at lE6 lR6
  rw [gi_set (by rw [ph1.lc]; exact hin), if_pos rfl] at lE6
  have hlen : P1.ps.length ≤ 1000 := by
    have := gd_len d j1.jg
    rw [j1.js]
    omega
  obtain ⟨u, H7, e7, ph8, n7, ⟨F7, f1, f2, c7⟩, hq7, nu, vu⟩ := ph6.app (by rw [plC]; exact g6q) ((i : Int), (gn P1.pa i : Int), m, endT l m P1 i) hlen
  simp only [runC] at e7
  have g7q := hq7.trans g6q
  obtain ⟨H8, hG8⟩ : ∃ H8, H8 = H7.set q (plC n v w l.length es.length a b c t u P1.pw) := ⟨_, rfl⟩
  have hG8' := hG8
  rw [plC] at hG8'
  have ph8 : PH H0 H8 n v w l.length es.length q a b c t { pa := P1.pa, pr := P1.pr, pe := P1.pe.set i (endT l m P1 i), pt := P1.pt.set (legE es l P1 i).toNat true, ps := P1.ps ++ [((i : Int), (gn P1.pa i : Int), m, endT l m P1 i)], pw := P1.pw } := by rw [hG8]; exact ph8
  have g8q : H8.get q = some (.own [.int .i64 n, v, w, sl1 a l.length, sl1 b l.length, sl1 c l.length, sl1 t es.length, u, .int .i64 P1.pw]) := by rw [hG8, Zbi, if_pos rfl]; rfl
  rw [G_dreg]
  simp (maxSteps := 4000000) (disch := omega) only [ZD, Zio, Zip, pre_, beq_self_eq_true, Nat.reduceBEq, Zq, evO, vbox, wr, Zeq, if_true, if_false, Nat.reduceEqDiff, Nat.reduceAdd, Nat.reduceLeDiff, Nat.reduceSub, and_self, and_true, true_and, reduceIte, reduceCtorEq, eq_self, implies_true, forall_const, false_implies, imp_self, decide_true, decide_false, fix_nil, fix_cons, t0, t1, t11, t12, t13, g1, g2, g2q, g3, g3q, g4, g4q, t4, t5, t6, g5q, g5, g6q, g6, g7q, g8q, GD_app, ixc, lE6, tr1, e7, nu, vu]
  first | with_reducible refine And.intro (by repeat' (first | apply And.intro | omega)) ?_ | skip
  rw [← hG8']
  first | refine G_fix [0, 1, 4, 11, 12, 13] ?_ | refine GO_fix [0, 1, 4, 11, 12, 13] ?_ | refine cK_fix [0, 1, 4, 11, 12, 13] ?_
  intro T hT
  simp only [fix_nil, fix_cons, Zq, evO, vbox, wr, Zeq, if_true, if_false, Nat.reduceEqDiff, Nat.reduceAdd, Nat.reduceLeDiff, Nat.reduceSub, and_self, and_true, true_and, reduceIte, reduceCtorEq, eq_self, implies_true, forall_const, false_implies, imp_self, decide_true, decide_false, t0, t1, t11, t12, t13, t4, t5, t6] at hT
  obtain ⟨t0, t1, t4, t11, t12, t13⟩ := hT
  refine G_tame rfl ?_
  have lR8 := ph8.ldR hin
  have hpr : 0 ≤ gi P1.pr i ∧ gi P1.pr i ≤ 27000000 := by
    have := rdy_bd d j1.jg hin
    have := gd_len d j1.jg
    rcases j1.ju i hin with h | h
    · omega
    · omega
  have hpw := gd_w d j1.jg
  rw [← j1.jw] at hpw
  have hw4 : IntKind.i64.wrap (m - gi P1.pr i) = m - gi P1.pr i := wrap64 (by omega) (by omega)
  have hw5 : IntKind.i64.wrap (P1.pw + (m - gi P1.pr i)) = P1.pw + (m - gi P1.pr i) := wrap64 (by omega) (by omega)
  have ph9 := ph8.stW (by rw [plC]; exact g8q) (P1.pw + (m - gi P1.pr i))
  rw [plC] at ph9
  simp only [] at lR8
  simp (maxSteps := 4000000) (disch := omega) only [Zq, evO, vbox, wr, Zeq, if_true, if_false, Nat.reduceEqDiff, Nat.reduceAdd, Nat.reduceLeDiff, Nat.reduceSub, and_self, and_true, true_and, reduceIte, reduceCtorEq, eq_self, implies_true, forall_const, false_implies, imp_self, decide_true, decide_false, fix_nil, fix_cons, t0, t1, t11, t12, t13, g1, g2, g2q, g3, g3q, g4, g4q, t4, t5, t6, g5q, g5, g6q, g6, g7q, g8q, g8q, ixb, lR8, hw4, hw5]
  exact ⟨hin, ph9⟩
end
end Go.Proofs.Ytjjglonmaajjoaa.AX
