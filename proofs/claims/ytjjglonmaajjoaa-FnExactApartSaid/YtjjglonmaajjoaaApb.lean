/- Runs that stand apart: the walks. No condition beyond each law's own; of the program: the functions' forms. -/
import Derived.Test.YtjjglonmaajjoaaAp
namespace Go.Proofs.Ytjjglonmaajjoaa.AX
open Go
set_option maxRecDepth 10000
set_option maxHeartbeats 4000000
set_option linter.unusedSimpArgs false
set_option linter.unusedVariables false
section
variable {H : Heap} {v w u : Value} {n : Int} {es : List Ed} {l : List Tp} {rs : List Rn}
theorem r_spec_Apart (he : (rSlc rEdge).rd H [v] es) (hl : es.length ≤ 1048576) (hr : (rSlc rTrip).rd H [w] l) (ht : (rSlc rTrip).tot l ≤ 1048576) (ha : (rSlc rRun).rd H [u] rs) (hal : rs.length ≤ 1048576) : Run Try.prog 51 [.agg #[.int .i64 n, v], w, u] H fun r H' => Keep H H' ∧ r = .bool (apart n es l rs) := by
  have lw : ∀ H : Heap, vlen H w = some (.int .i64 l.length, H) := fun _ => slc_len hr
  have lu : ∀ H : Heap, vlen H u = some (.int .i64 rs.length, H) := fun _ => slc_len ha
  refine Run.intro c51 rfl ?_
  simp (maxSteps := 4000000) (disch := omega) only [Zq, evO, vbox, wr, Zeq, if_true, if_false, Nat.reduceEqDiff, Nat.reduceAdd, Nat.reduceLeDiff, Nat.reduceSub, and_self, and_true, true_and, reduceIte, reduceCtorEq, eq_self, implies_true, forall_const, false_implies, imp_self, decide_true, decide_false, x51]
  generalize hG0 : H.push [.int .i64 n, v] = H0
  have k0 : Keep H H0 := by rw [← hG0]; exact Keep.push _ _
  have g0 : H0.get H.nxt = some (.own [.int .i64 n, v]) := by rw [← hG0, push_get', if_pos rfl]
  have n0 : H0.nxt = H.nxt + 1 := by rw [← hG0, Zbg]
  refine GO_call ((r_spec_Ridden ((rSlc rEdge).rdk he k0) hl ((rSlc rTrip).rdk hr k0) ht).mono ?_)
  rintro _ H1 ⟨k1, rfl⟩
  have n1 := k1.nxt
  have g1 := (k1.get (H.nxt) (by omega)).trans g0
  have k01 := k0.trans k1
  by_cases ok : ridden n es l = true
  rotate_left
  · rw [Bool.not_eq_true] at ok
    simp (maxSteps := 4000000) (disch := omega) only [Zq, evO, vbox, wr, Zeq, if_true, if_false, Nat.reduceEqDiff, Nat.reduceAdd, Nat.reduceLeDiff, Nat.reduceSub, and_self, and_true, true_and, reduceIte, reduceCtorEq, eq_self, implies_true, forall_const, false_implies, imp_self, decide_true, decide_false, fix_nil, fix_cons, g0, g1, ok]
    exact ⟨k01, by rw [apart, ok]; rfl⟩
  by_cases hu : rs.length ≤ 300
  rotate_left
  · simp (maxSteps := 4000000) (disch := omega) only [Zq, evO, vbox, wr, Zeq, if_true, if_false, Nat.reduceEqDiff, Nat.reduceAdd, Nat.reduceLeDiff, Nat.reduceSub, and_self, and_true, true_and, reduceIte, reduceCtorEq, eq_self, implies_true, forall_const, false_implies, imp_self, decide_true, decide_false, fix_nil, fix_cons, g0, g1, ok, lu, Zfh (show (300 : Int) < rs.length by omega)]
    exact ⟨k01, by rw [apart, ok, decide_eq_false hu]; rfl⟩
  obtain ⟨hes, l24, htp, _⟩ := ridden_get ok
  simp (maxSteps := 4000000) (disch := omega) only [Zq, evO, vbox, wr, Zeq, if_true, if_false, Nat.reduceEqDiff, Nat.reduceAdd, Nat.reduceLeDiff, Nat.reduceSub, and_self, and_true, true_and, reduceIte, reduceCtorEq, eq_self, implies_true, forall_const, false_implies, imp_self, decide_true, decide_false, fix_nil, fix_cons, g0, g1, ok, lu, Zfi (show ¬ (300 : Int) < rs.length by omega)]
  refine G_forF [1, 2, 3] (rs.length) (fun i T H2 => T 7 = .int .i64 (i : Int) ∧ Keep H1 H2 ∧ ∀ j, j < i → apRow es l rs j = true) 0 (Nat.zero_le _) ?_ ?_
  · simp (maxSteps := 4000000) (disch := omega) only [Zq, evO, vbox, wr, Zeq, if_true, if_false, Nat.reduceEqDiff, Nat.reduceAdd, Nat.reduceLeDiff, Nat.reduceSub, and_self, and_true, true_and, reduceIte, reduceCtorEq, eq_self, implies_true, forall_const, false_implies, imp_self, decide_true, decide_false, fix_nil, fix_cons, g0, g1]
    exact ⟨Keep.refl _, fun j hj => by omega⟩
  rintro i T H2 hi hT ⟨t7, k2, hp⟩
  simp only [fix_nil, fix_cons, Zq, evO, vbox, wr, Zeq, if_true, if_false, Nat.reduceEqDiff, Nat.reduceAdd, Nat.reduceLeDiff, Nat.reduceSub, and_self, and_true, true_and, reduceIte, reduceCtorEq, eq_self, implies_true, forall_const, false_implies, imp_self, decide_true, decide_false] at hT
  obtain ⟨t1, t2, t3⟩ := hT
  have n2 := k2.nxt
  have k02 := k01.trans k2
  have g2 := (k2.get H.nxt (by omega)).trans g1
  by_cases hin : i < rs.length
  rotate_left
  · obtain rfl : i = rs.length := by omega
    simp (maxSteps := 4000000) (disch := omega) only [Zq, evO, vbox, wr, Zeq, if_true, if_false, Nat.reduceEqDiff, Nat.reduceAdd, Nat.reduceLeDiff, Nat.reduceSub, and_self, and_true, true_and, reduceIte, reduceCtorEq, eq_self, implies_true, forall_const, false_implies, imp_self, decide_true, decide_false, fix_nil, fix_cons, g0, g1, t1, t2, t3, t7, g2, lu]
    exact ⟨k02, by rw [apart, ok, decide_eq_true hu, allTo_iff.2 hp]; rfl⟩
  have ixr := fun H0 : Heap => slc_idx (r := rRun) (H1 := H0) (sz := 4) (i := i) (k := .i64) rfl ha hin
  have eR := (run_elK ha hin H2 k02).1
  have hrow : apRow es l rs i = (rnOk l (rn rs i) && allTo i (fun k => rnNo es l (rn rs i) (rn rs k))) := rfl
  obtain ⟨⟨a, b, f, t⟩, hx⟩ : ∃ r, r = rn rs i := ⟨_, rfl⟩
  rw [← hx] at eR hrow
  simp only [] at eR
  simp (maxSteps := 4000000) (disch := omega) only [Zq, evO, vbox, wr, Zeq, if_true, if_false, Nat.reduceEqDiff, Nat.reduceAdd, Nat.reduceLeDiff, Nat.reduceSub, and_self, and_true, true_and, reduceIte, reduceCtorEq, eq_self, implies_true, forall_const, false_implies, imp_self, decide_true, decide_false, fix_nil, fix_cons, g0, g1, t1, t2, t3, t7, g2, lu, ixr, eR]
  generalize hG3 : (H2.push [.int .i64 0, .int .i64 0, .int .i64 0, .int .i64 0]).set H2.nxt [.int .i64 a, .int .i64 b, .int .i64 f, .int .i64 t] = H3
  have k3 : Keep H2 H3 := by rw [← hG3]; repeat' (first | exact Keep.refl _ | assumption | refine Keep.push' ?_ | refine Keep.set' ?_ ?_ | refine Keep.moved' ?_ ?_ | omega)
  have g3 : H3.get H2.nxt = some (.own [.int .i64 a, .int .i64 b, .int .i64 f, .int .i64 t]) := by rw [← hG3, Zbi, if_pos rfl]
  have n3 : H3.nxt = H2.nxt + 1 := by rw [← hG3, Zbh, Zbg]
  have g3n := (k3.get H.nxt (by omega)).trans g2
  have k03 := k02.trans k3
  clear hG3
  have hw1 : IntKind.i64.wrap ((l.length : Int) - 1) = (l.length : Int) - 1 := wrap64 (by omega) (by omega)
  have bad : rnOk l (a, b, f, t) = false → apart n es l rs = false := fun h => by rw [apart, ok, decide_eq_true hu, allTo_bad hin (by rw [hrow, h]; rfl)]; rfl
  refine G_tame rfl ?_
  simp (maxSteps := 4000000) (disch := omega) only [Zq, evO, vbox, wr, Zeq, if_true, if_false, Nat.reduceEqDiff, Nat.reduceAdd, Nat.reduceLeDiff, Nat.reduceSub, and_self, and_true, true_and, reduceIte, reduceCtorEq, eq_self, implies_true, forall_const, false_implies, imp_self, decide_true, decide_false, fix_nil, fix_cons, g0, g1, t1, t2, t3, t7, g2, g3, g3n, lw, hw1]
  refine GO_call ((r_spec_l01In a 0 ((l.length : Int) - 1) H3).mono ?_)
  rintro _ H4 ⟨k4, rfl⟩
  have n4 := k4.nxt
  have g4 := (k4.get (H2.nxt) (by omega)).trans g3
  have g4n := (k4.get (H.nxt) (by omega)).trans g3n
  have k04 := k03.trans k4
  cases c1 : inR 0 ((l.length : Int) - 1) a with
  | false =>
    simp (maxSteps := 4000000) (disch := omega) only [Zq, evO, vbox, wr, Zeq, if_true, if_false, Nat.reduceEqDiff, Nat.reduceAdd, Nat.reduceLeDiff, Nat.reduceSub, and_self, and_true, true_and, reduceIte, reduceCtorEq, eq_self, implies_true, forall_const, false_implies, imp_self, decide_true, decide_false, fix_nil, fix_cons, g0, g1, t1, t2, t3, t7, g2, g3, g3n, g4, g4n, c1]
    exact ⟨k04, by rw [bad (by simp [rnOk, c1])]⟩
  | true =>
  obtain ⟨p, rfl, hpl⟩ := in_nat c1
  have hpl : p < l.length := by omega
  obtain ⟨wc, hc, fc⟩ := trip_elK hr hpl
  have ixw := fun H0 : Heap => slc_idx (r := rTrip) (H1 := H0) (sz := 2) (i := p) (k := .i64) rfl hr hpl
  have fxw := fun (H0 : Heap) (o off : Nat) => slc_fad (r := rTrip) (H1 := H0) (sz := 2) (o := o) (off := off) rfl hr hpl
  have lc : ∀ H : Heap, vlen H wc = some (.int .i64 (tp l p).2.length, H) := fun _ => slc_len hc
  obtain ⟨h2, h12, hcl⟩ := tpOk_get (htp p hpl)
  have hw2 : IntKind.i64.wrap (((tp l p).2.length : Int) - 2) = ((tp l p).2.length : Int) - 2 := wrap64 (by omega) (by omega)
  simp (maxSteps := 4000000) (disch := omega) only [Zq, evO, vbox, wr, Zeq, if_true, if_false, Nat.reduceEqDiff, Nat.reduceAdd, Nat.reduceLeDiff, Nat.reduceSub, and_self, and_true, true_and, reduceIte, reduceCtorEq, eq_self, implies_true, forall_const, false_implies, imp_self, decide_true, decide_false, fix_nil, fix_cons, g0, g1, t1, t2, t3, t7, g2, g3, g3n, g4, g4n, c1, ixw, fxw, (fc H4 k04).2.2, lc, hw2]
  refine GO_call ((r_spec_l01In b 0 (((tp l p).2.length : Int) - 2) H4).mono ?_)
  rintro _ H5 ⟨k5, rfl⟩
  have n5 := k5.nxt
  have g5 := (k5.get (H2.nxt) (by omega)).trans g4
  have g5n := (k5.get (H.nxt) (by omega)).trans g4n
  have k05 := k04.trans k5
  cases c2 : inR 0 (((tp l p).2.length : Int) - 2) b with
  | false =>
    simp (maxSteps := 4000000) (disch := omega) only [Zq, evO, vbox, wr, Zeq, if_true, if_false, Nat.reduceEqDiff, Nat.reduceAdd, Nat.reduceLeDiff, Nat.reduceSub, and_self, and_true, true_and, reduceIte, reduceCtorEq, eq_self, implies_true, forall_const, false_implies, imp_self, decide_true, decide_false, fix_nil, fix_cons, g0, g1, t1, t2, t3, t7, g2, g3, g3n, g4, g4n, g5, g5n, c2]
    exact ⟨k05, by rw [bad (by simp [rnOk, c1, c2])]⟩
  | true =>
  obtain ⟨q, rfl, hql⟩ := in_nat c2
  have hql : q + 1 < (tp l p).2.length := by omega
  by_cases c3 : f < t
  rotate_left
  · simp (maxSteps := 4000000) (disch := omega) only [Zq, evO, vbox, wr, Zeq, if_true, if_false, Nat.reduceEqDiff, Nat.reduceAdd, Nat.reduceLeDiff, Nat.reduceSub, and_self, and_true, true_and, reduceIte, reduceCtorEq, eq_self, implies_true, forall_const, false_implies, imp_self, decide_true, decide_false, fix_nil, fix_cons, g0, g1, t1, t2, t3, t7, g2, g3, g3n, g4, g4n, g5, g5n, c2]
    exact ⟨k05, by rw [bad (by simp [rnOk, c1, c2, c3])]⟩
  have good : rnOk l ((p : Int), (q : Int), f, t) = true := by simp [rnOk, c1, c2, c3]
  simp (maxSteps := 4000000) (disch := omega) only [Zq, evO, vbox, wr, Zeq, if_true, if_false, Nat.reduceEqDiff, Nat.reduceAdd, Nat.reduceLeDiff, Nat.reduceSub, and_self, and_true, true_and, reduceIte, reduceCtorEq, eq_self, implies_true, forall_const, false_implies, imp_self, decide_true, decide_false, fix_nil, fix_cons, g0, g1, t1, t2, t3, t7, g2, g3, g3n, g4, g4n, g5, g5n, c2]
  refine G_forF [1, 2, 3, 7, 8] (i) (fun k T H6 => T 9 = .int .i64 (k : Int) ∧ Keep H5 H6 ∧ ∀ j, j < k → rnNo es l ((p : Int), (q : Int), f, t) (rn rs j) = true) 0 (Nat.zero_le _) ?_ ?_
  · simp (maxSteps := 4000000) (disch := omega) only [Zq, evO, vbox, wr, Zeq, if_true, if_false, Nat.reduceEqDiff, Nat.reduceAdd, Nat.reduceLeDiff, Nat.reduceSub, and_self, and_true, true_and, reduceIte, reduceCtorEq, eq_self, implies_true, forall_const, false_implies, imp_self, decide_true, decide_false, fix_nil, fix_cons, g0, g1, t1, t2, t3, t7, g2, g3, g3n, g4, g4n, g5, g5n]
    exact ⟨Keep.refl _, fun j hj => by omega⟩
  rintro k T H6 hk hT ⟨t9, k6, hq⟩
  simp only [fix_nil, fix_cons, Zq, evO, vbox, wr, Zeq, if_true, if_false, Nat.reduceEqDiff, Nat.reduceAdd, Nat.reduceLeDiff, Nat.reduceSub, and_self, and_true, true_and, reduceIte, reduceCtorEq, eq_self, implies_true, forall_const, false_implies, imp_self, decide_true, decide_false, t1, t2, t3, t7] at hT
  obtain ⟨t1, t2, t3, t7, t8⟩ := hT
  have n6 := k6.nxt
  have k06 := k05.trans k6
  have g6 := (k6.get H2.nxt (by omega)).trans g5
  have g6n := (k6.get H.nxt (by omega)).trans g5n
  by_cases hki : k < i
  rotate_left
  · obtain rfl : k = i := by omega
    simp (maxSteps := 4000000) (disch := omega) only [Zq, evO, vbox, wr, Zeq, if_true, if_false, Nat.reduceEqDiff, Nat.reduceAdd, Nat.reduceLeDiff, Nat.reduceSub, and_self, and_true, true_and, reduceIte, reduceCtorEq, eq_self, implies_true, forall_const, false_implies, imp_self, decide_true, decide_false, fix_nil, fix_cons, g0, g1, t1, t2, t3, t7, g2, g3, g3n, g4, g4n, g5, g5n, t8, t9, g6, g6n]
    exact ⟨hin, k2.trans (k3.trans (k4.trans (k5.trans k6))), upto_succ hp (by rw [hrow, good, allTo_iff.2 hq]; rfl)⟩
  have hkr : k < rs.length := by omega
  have hrk : rnOk l (rn rs k) = true := by
    have := hp k hki
    simp only [apRow, Bool.and_eq_true] at this
    exact this.1
  have ixk := fun H0 : Heap => slc_idx (r := rRun) (H1 := H0) (sz := 4) (i := k) (k := .i64) rfl ha hkr
  have fxk := fun (H0 : Heap) (o off : Nat) => slc_fad (r := rRun) (H1 := H0) (sz := 4) (i := k) (o := o) (off := off) rfl ha hkr
  have txk := fun (ix o : Nat) => slc_trL (r := rRun) (sz := 4) (i := k) (ix := ix) (o := o) rfl ha hkr
  have bx := slc_blk ha hkr
  have ldk := run_elK ha hkr
  have hno : rnNo es l ((p : Int), (q : Int), f, t) (rn rs k) = !(decide (rnE es l (rn rs k) = lgE es l p q) && (decide ((rn rs k).2.2.1 < t) && decide (f < (rn rs k).2.2.2))) := rfl
  generalize hy : rn rs k = y at hrk ldk hno
  obtain ⟨a', b', f', t'⟩ := y
  have hrk' := hrk
  simp only [rnOk, Bool.and_eq_true, decide_eq_true_eq] at hrk'
  obtain ⟨h1, h2', _⟩ := hrk'
  obtain ⟨p', rfl, hpl'⟩ := in_nat h1
  obtain ⟨q', rfl, hql'⟩ := in_nat h2'
  have e1 := (ldk H6 k06).1
  simp (maxSteps := 4000000) (disch := omega) only [Zq, evO, vbox, wr, Zeq, if_true, if_false, Nat.reduceEqDiff, Nat.reduceAdd, Nat.reduceLeDiff, Nat.reduceSub, and_self, and_true, true_and, reduceIte, reduceCtorEq, eq_self, implies_true, forall_const, false_implies, imp_self, decide_true, decide_false, fix_nil, fix_cons, g0, g1, t1, t2, t3, t7, g2, g3, g3n, g4, g4n, g5, g5n, t8, t9, g6, g6n]
  simp (maxSteps := 4000000) (disch := omega) only [ZD, Zio, Zip, pre_, beq_self_eq_true, Nat.reduceBEq, Zq, evO, vbox, wr, Zeq, if_true, if_false, Nat.reduceEqDiff, Nat.reduceAdd, Nat.reduceLeDiff, Nat.reduceSub, and_self, and_true, true_and, reduceIte, reduceCtorEq, eq_self, implies_true, forall_const, false_implies, imp_self, decide_true, decide_false, fix_nil, fix_cons, g0, g1, t1, t2, t3, t7, g2, g3, g3n, g4, g4n, g5, g5n, t8, t9, g6, g6n, G_dreg, ixk, fxk, txk, e1]
  refine GD_call ((r_spec_l21Edge (n := n) (i := p') (k := q') ((rSlc rEdge).rdk he k06) hl ((rSlc rTrip).rdk hr k06) ok (by omega) (by rw [Int.toNat_natCast] at hql'; omega) f' t').mono ?_)
  rintro _ H7 ⟨k7, rfl⟩
  have n7 := k7.nxt
  have g7 := (k7.get H2.nxt (by omega)).trans g6
  have g7n := (k7.get H.nxt (by omega)).trans g6n
  have k07 := k06.trans k7
  simp (maxSteps := 4000000) (disch := omega) only [ZD, Zio, Zip, pre_, beq_self_eq_true, Nat.reduceBEq, Zq, evO, vbox, wr, Zeq, if_true, if_false, Nat.reduceEqDiff, Nat.reduceAdd, Nat.reduceLeDiff, Nat.reduceSub, and_self, and_true, true_and, reduceIte, reduceCtorEq, eq_self, implies_true, forall_const, false_implies, imp_self, decide_true, decide_false, fix_nil, fix_cons, g0, g1, t1, t2, t3, t7, g2, g3, g3n, g4, g4n, g5, g5n, t8, t9, g6, g6n, g7, g7n]
  refine GD_call ((r_spec_l21Edge (n := n) (i := p) (k := q) ((rSlc rEdge).rdk he k07) hl ((rSlc rTrip).rdk hr k07) ok hpl (by omega) f t).mono ?_)
  rintro _ H8 ⟨k8, rfl⟩
  have n8 := k8.nxt
  have g8 := (k8.get H2.nxt (by omega)).trans g7
  have g8n := (k8.get H.nxt (by omega)).trans g7n
  have k08 := k07.trans k8
  have e2 := (ldk H8 k08).2.1
  have e3 := (ldk H8 k08).2.2
  have hE : rnE es l ((p' : Int), (q' : Int), f', t') = lgE es l p' q' := rfl
  simp only [] at hno e2 e3
  rw [hE] at hno
  by_cases c4 : lgE es l p' q' = lgE es l p q
  rotate_left
  · simp (maxSteps := 4000000) (disch := omega) only [ZD, Zio, Zip, pre_, beq_self_eq_true, Nat.reduceBEq, Zq, evO, vbox, wr, Zeq, if_true, if_false, Nat.reduceEqDiff, Nat.reduceAdd, Nat.reduceLeDiff, Nat.reduceSub, and_self, and_true, true_and, reduceIte, reduceCtorEq, eq_self, implies_true, forall_const, false_implies, imp_self, decide_true, decide_false, fix_nil, fix_cons, g0, g1, t1, t2, t3, t7, g2, g3, g3n, g4, g4n, g5, g5n, t8, t9, g6, g6n, g7, g7n, g8, g8n, Zfm c4]
    first | with_reducible refine And.intro (by repeat' (first | apply And.intro | omega | exact k7.get _ (by omega) | exact k8.get _ (by omega))) ?_ | skip
    exact ⟨k6.trans (k7.trans k8), upto_succ hq (by rw [hy, hno, decide_eq_false c4]; rfl)⟩
  by_cases c5 : f' < t
  rotate_left
  · simp (maxSteps := 4000000) (disch := omega) only [ZD, Zio, Zip, pre_, beq_self_eq_true, Nat.reduceBEq, Zq, evO, vbox, wr, Zeq, if_true, if_false, Nat.reduceEqDiff, Nat.reduceAdd, Nat.reduceLeDiff, Nat.reduceSub, and_self, and_true, true_and, reduceIte, reduceCtorEq, eq_self, implies_true, forall_const, false_implies, imp_self, decide_true, decide_false, fix_nil, fix_cons, g0, g1, t1, t2, t3, t7, g2, g3, g3n, g4, g4n, g5, g5n, t8, t9, g6, g6n, g7, g7n, g8, g8n, Zfl c4, ixk, fxk, txk, e2, e3, Zfi c5]
    first | with_reducible refine And.intro (by repeat' (first | apply And.intro | omega | exact k7.get _ (by omega) | exact k8.get _ (by omega))) ?_ | skip
    exact ⟨k6.trans (k7.trans k8), upto_succ hq (by rw [hy, hno, decide_eq_false c5, Bool.false_and, Bool.and_false]; rfl)⟩
  by_cases c6 : f < t'
  rotate_left
  · simp (maxSteps := 4000000) (disch := omega) only [ZD, Zio, Zip, pre_, beq_self_eq_true, Nat.reduceBEq, Zq, evO, vbox, wr, Zeq, if_true, if_false, Nat.reduceEqDiff, Nat.reduceAdd, Nat.reduceLeDiff, Nat.reduceSub, and_self, and_true, true_and, reduceIte, reduceCtorEq, eq_self, implies_true, forall_const, false_implies, imp_self, decide_true, decide_false, fix_nil, fix_cons, g0, g1, t1, t2, t3, t7, g2, g3, g3n, g4, g4n, g5, g5n, t8, t9, g6, g6n, g7, g7n, g8, g8n, Zfl c4, ixk, fxk, txk, e2, e3, Zfh c5, Zfi c6]
    first | with_reducible refine And.intro (by repeat' (first | apply And.intro | omega | exact k7.get _ (by omega) | exact k8.get _ (by omega))) ?_ | skip
    exact ⟨k6.trans (k7.trans k8), upto_succ hq (by rw [hy, hno, decide_eq_false c6, Bool.and_false, Bool.and_false]; rfl)⟩
  simp (maxSteps := 4000000) (disch := omega) only [ZD, Zio, Zip, pre_, beq_self_eq_true, Nat.reduceBEq, Zq, evO, vbox, wr, Zeq, if_true, if_false, Nat.reduceEqDiff, Nat.reduceAdd, Nat.reduceLeDiff, Nat.reduceSub, and_self, and_true, true_and, reduceIte, reduceCtorEq, eq_self, implies_true, forall_const, false_implies, imp_self, decide_true, decide_false, fix_nil, fix_cons, g0, g1, t1, t2, t3, t7, g2, g3, g3n, g4, g4n, g5, g5n, t8, t9, g6, g6n, g7, g7n, g8, g8n, Zfl c4, ixk, fxk, txk, e2, e3, Zfh c5, Zfh c6]
  first | with_reducible refine And.intro (by repeat' (first | apply And.intro | omega | exact k7.get _ (by omega) | exact k8.get _ (by omega))) ?_ | skip
  exact (by rw [show apart n es l rs = false from by rw [apart, ok, decide_eq_true hu, allTo_bad hin (by rw [hrow, allTo_bad hki (by rw [hy, hno, decide_eq_true c4, decide_eq_true c5, decide_eq_true c6]; rfl), Bool.and_false])]; rfl])
end
end Go.Proofs.Ytjjglonmaajjoaa.AX
