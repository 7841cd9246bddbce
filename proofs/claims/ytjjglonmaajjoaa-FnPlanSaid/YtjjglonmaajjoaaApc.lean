/- Runs that stand apart: the program's walk. No condition beyond each law's own; of the program: the functions' forms. -/
import Derived.Test.YtjjglonmaajjoaaAp
namespace Go.Proofs.Ytjjglonmaajjoaa.AX
open Go
set_option maxRecDepth 10000
set_option maxHeartbeats 4000000
set_option linter.unusedSimpArgs false
set_option linter.unusedVariables false
section
variable {H : Heap} {v w u : Value} {n : Int} {es : List Ed} {l : List Tp} {rs : List Rn}
theorem r_impl_Apart (he : (rSlc rEdge).rd H [v] es) (hl : es.length ≤ 1048576) (hr : (rSlc rTrip).rd H [w] l) (ht : (rSlc rTrip).tot l ≤ 1048576) (ha : (rSlc rRun).rd H [u] rs) (hal : rs.length ≤ 1048576) : Run Try.prog 18 [.agg #[.int .i64 n, v], w, u] H fun r H' => Keep H H' ∧ r = .bool (apart n es l rs) := by
  have lw : ∀ H : Heap, vlen H w = some (.int .i64 l.length, H) := fun _ => slc_len hr
  have lu : ∀ H : Heap, vlen H u = some (.int .i64 rs.length, H) := fun _ => slc_len ha
  refine Run.intro c18 rfl ?_
  simp (maxSteps := 4000000) (disch := omega) only [Zq, evO, vbox, wr, Zeq, if_true, if_false, Nat.reduceEqDiff, Nat.reduceAdd, Nat.reduceLeDiff, Nat.reduceSub, and_self, and_true, true_and, reduceIte, reduceCtorEq, eq_self, implies_true, forall_const, false_implies, imp_self, decide_true, decide_false, x18]
  generalize hG0 : H.push [.int .i64 n, v] = H0
  have k0 : Keep H H0 := by rw [← hG0]; exact Keep.push _ _
  have g0 : H0.get H.nxt = some (.own [.int .i64 n, v]) := by rw [← hG0, push_get', if_pos rfl]
  have n0 : H0.nxt = H.nxt + 1 := by rw [← hG0, Zbg]
  refine GO_call ((r_impl_Ridden ((rSlc rEdge).rdk he k0) hl ((rSlc rTrip).rdk hr k0) ht).mono ?_)
  rintro _ H1 ⟨k1, rfl⟩
  have n1 := k1.nxt
  have g1 := (k1.get (H.nxt) (by omega)).trans g0
  have k01 := k0.trans k1
  by_cases ok : ridden n es l = true
  rotate_left
  · rw [Bool.not_eq_true] at ok
    simp (maxSteps := 4000000) (disch := omega) only [Zq, evO, vbox, wr, Zeq, if_true, if_false, Nat.reduceEqDiff, Nat.reduceAdd, Nat.reduceLeDiff, Nat.reduceSub, and_self, and_true, true_and, reduceIte, reduceCtorEq, eq_self, implies_true, forall_const, false_implies, imp_self, decide_true, decide_false, fix_nil, fix_cons, g0, g1, ok]
    exact ⟨k01, by rw [apart, ok]; rfl⟩
  by_cases hu : rs.length ≤ 300
  rotate_left
  · simp (maxSteps := 4000000) (disch := omega) only [Zq, evO, vbox, wr, Zeq, if_true, if_false, Nat.reduceEqDiff, Nat.reduceAdd, Nat.reduceLeDiff, Nat.reduceSub, and_self, and_true, true_and, reduceIte, reduceCtorEq, eq_self, implies_true, forall_const, false_implies, imp_self, decide_true, decide_false, fix_nil, fix_cons, g0, g1, ok, lu, Zfh (show (300 : Int) < rs.length by omega)]
    exact ⟨k01, by rw [apart, ok, decide_eq_false hu]; rfl⟩
  obtain ⟨hes, l24, htp, _⟩ := ridden_get ok
  obtain ⟨csw, slw⟩ := slc_sl (sz := 2) (r := rTrip) rfl hr
  have nw := Sl.noTup_ slw
  have vw := Sl.cells_ slw
  simp (maxSteps := 4000000) (disch := omega) only [Zq, evO, vbox, wr, Zeq, if_true, if_false, Nat.reduceEqDiff, Nat.reduceAdd, Nat.reduceLeDiff, Nat.reduceSub, and_self, and_true, true_and, reduceIte, reduceCtorEq, eq_self, implies_true, forall_const, false_implies, imp_self, decide_true, decide_false, fix_nil, fix_cons, g0, g1, ok, lu, Zfi (show ¬ (300 : Int) < rs.length by omega), nw, vw]
  generalize hG2 : (H1.push [.int .i64 0, .slice none 0 0, .slice none 0 0, .slice none 0 0, .slice none 0 0, .slice none 0 0, .slice none 0 0, .slice none 0 0, .int .i64 0]).set H1.nxt [.int .i64 n, v, w, .slice none 0 0, .slice none 0 0, .slice none 0 0, .slice none 0 0, .slice none 0 0, .int .i64 0] = H2
  have k2 : Keep H1 H2 := by rw [← hG2]; repeat' (first | exact Keep.refl _ | assumption | refine Keep.push' ?_ | refine Keep.set' ?_ ?_ | refine Keep.moved' ?_ ?_ | omega)
  have g2 : H2.get H1.nxt = some (.own [.int .i64 n, v, w, .slice none 0 0, .slice none 0 0, .slice none 0 0, .slice none 0 0, .slice none 0 0, .int .i64 0]) := by rw [← hG2, Zbi, if_pos rfl]
  have n2 : H2.nxt = H1.nxt + 1 := by rw [← hG2, Zbh, Zbg]
  have k02 := k01.trans k2
  clear hG2
  generalize hG3 : H2.push (List.replicate rs.length [Value.int .i64 0]).flatten = H3
  have k3 : Keep H2 H3 := by rw [← hG3]; exact Keep.push _ _
  have n3 : H3.nxt = H2.nxt + 1 := by rw [← hG3, Zbg]
  obtain ⟨cv, hcv⟩ : ∃ cv, cv = Value.slice (some ⟨H2.nxt, 0, none⟩) rs.length 1 := ⟨_, rfl⟩
  have oc3 : NewI H2 H3 cv (List.replicate rs.length 0) := ⟨H2.nxt, Nat.le_refl _, by omega, by rw [hcv, List.length_replicate], by rw [← hG3, push_get', if_pos rfl, fcZ]; congr 2; induction rs.length with | zero => rfl | succ n ih => simp [List.replicate_succ, ih]⟩
  rw [← n2, ← hcv]
  clear hG3
  refine G_forF [1, 2, 7, 8, 28, 29] (rs.length) (fun i T H4 => T 30 = .int .i64 (i : Int) ∧ Keep H2 H4 ∧ (∃ E : List Int, NewI H2 H4 cv E ∧ E.length = rs.length ∧ ∀ j, j < i → E.getD j 0 = rnE es l (rn rs j)) ∧ ∀ j, j < i → apRow es l rs j = true) 0 (Nat.zero_le _) ?_ ?_
  · simp (maxSteps := 4000000) (disch := omega) only [Zq, evO, vbox, wr, Zeq, if_true, if_false, Nat.reduceEqDiff, Nat.reduceAdd, Nat.reduceLeDiff, Nat.reduceSub, and_self, and_true, true_and, reduceIte, reduceCtorEq, eq_self, implies_true, forall_const, false_implies, imp_self, decide_true, decide_false, fix_nil, fix_cons, g0, g1, g2]
    exact ⟨k3, ⟨_, oc3, List.length_replicate, fun j hj => by omega⟩, fun j hj => by omega⟩
  rintro i T H4 hi hT ⟨t30, k4, ⟨E, oc4, lE, hE⟩, hp⟩
  simp only [fix_nil, fix_cons, Zq, evO, vbox, wr, Zeq, if_true, if_false, Nat.reduceEqDiff, Nat.reduceAdd, Nat.reduceLeDiff, Nat.reduceSub, and_self, and_true, true_and, reduceIte, reduceCtorEq, eq_self, implies_true, forall_const, false_implies, imp_self, decide_true, decide_false] at hT
  obtain ⟨t1, t2, t7, t8, t28, t29⟩ := hT
  have n4 := k4.nxt
  have k04 := k02.trans k4
  have g4 := (k4.get H1.nxt (by omega)).trans g2
  by_cases hin : i < rs.length
  rotate_left
  · obtain rfl : i = rs.length := by omega
    simp (maxSteps := 4000000) (disch := omega) only [Zq, evO, vbox, wr, Zeq, if_true, if_false, Nat.reduceEqDiff, Nat.reduceAdd, Nat.reduceLeDiff, Nat.reduceSub, and_self, and_true, true_and, reduceIte, reduceCtorEq, eq_self, implies_true, forall_const, false_implies, imp_self, decide_true, decide_false, fix_nil, fix_cons, g0, g1, g2, t1, t2, t7, t8, t28, t29, t30, g4, lu]
    exact ⟨k04, by rw [apart, ok, decide_eq_true hu, allTo_iff.2 hp]; rfl⟩
  have ixr := fun H0 : Heap => slc_idx (r := rRun) (H1 := H0) (sz := 4) (i := i) (k := .i64) rfl ha hin
  have eR := (run_elK ha hin H4 k04).1
  have hrow : apRow es l rs i = (rnOk l (rn rs i) && allTo i (fun k => rnNo es l (rn rs i) (rn rs k))) := rfl
  obtain ⟨⟨a, b, f, t⟩, hx⟩ : ∃ r, r = rn rs i := ⟨_, rfl⟩
  have hxE := hx
  rw [← hx] at eR hrow
  simp only [] at eR
  simp (maxSteps := 4000000) (disch := omega) only [Zq, evO, vbox, wr, Zeq, if_true, if_false, Nat.reduceEqDiff, Nat.reduceAdd, Nat.reduceLeDiff, Nat.reduceSub, and_self, and_true, true_and, reduceIte, reduceCtorEq, eq_self, implies_true, forall_const, false_implies, imp_self, decide_true, decide_false, fix_nil, fix_cons, g0, g1, g2, t1, t2, t7, t8, t28, t29, t30, g4, lu, ixr, eR]
  generalize hG5 : (H4.push [.int .i64 0, .int .i64 0, .int .i64 0, .int .i64 0]).set H4.nxt [.int .i64 a, .int .i64 b, .int .i64 f, .int .i64 t] = H5
  have k5 : Keep H4 H5 := by rw [← hG5]; repeat' (first | exact Keep.refl _ | assumption | refine Keep.push' ?_ | refine Keep.set' ?_ ?_ | refine Keep.moved' ?_ ?_ | omega)
  have g5 : H5.get H4.nxt = some (.own [.int .i64 a, .int .i64 b, .int .i64 f, .int .i64 t]) := by rw [← hG5, Zbi, if_pos rfl]
  have n5 : H5.nxt = H4.nxt + 1 := by rw [← hG5, Zbh, Zbg]
  have g5p := (k5.get H1.nxt (by omega)).trans g4
  have k05 := k04.trans k5
  clear hG5
  have hw1 : IntKind.i64.wrap ((l.length : Int) - 1) = (l.length : Int) - 1 := wrap64 (by omega) (by omega)
  have bad : rnOk l (a, b, f, t) = false → apart n es l rs = false := fun h => by rw [apart, ok, decide_eq_true hu, allTo_bad hin (by rw [hrow, h]; rfl)]; rfl
  refine G_tame rfl ?_
  simp (maxSteps := 4000000) (disch := omega) only [Zq, evO, vbox, wr, Zeq, if_true, if_false, Nat.reduceEqDiff, Nat.reduceAdd, Nat.reduceLeDiff, Nat.reduceSub, and_self, and_true, true_and, reduceIte, reduceCtorEq, eq_self, implies_true, forall_const, false_implies, imp_self, decide_true, decide_false, fix_nil, fix_cons, g0, g1, g2, t1, t2, t7, t8, t28, t29, t30, g4, g5, g5p, lw, hw1]
  refine GO_call ((r_impl_between a 0 ((l.length : Int) - 1) H5).mono ?_)
  rintro _ H6 ⟨k6, rfl⟩
  have n6 := k6.nxt
  have g6 := (k6.get (H4.nxt) (by omega)).trans g5
  have g6p := (k6.get (H1.nxt) (by omega)).trans g5p
  have k06 := k05.trans k6
  cases c1 : inR 0 ((l.length : Int) - 1) a with
  | false =>
    simp (maxSteps := 4000000) (disch := omega) only [Zq, evO, vbox, wr, Zeq, if_true, if_false, Nat.reduceEqDiff, Nat.reduceAdd, Nat.reduceLeDiff, Nat.reduceSub, and_self, and_true, true_and, reduceIte, reduceCtorEq, eq_self, implies_true, forall_const, false_implies, imp_self, decide_true, decide_false, fix_nil, fix_cons, g0, g1, g2, t1, t2, t7, t8, t28, t29, t30, g4, g5, g5p, g6, g6p, c1]
    exact ⟨k06, by rw [bad (by simp [rnOk, c1])]⟩
  | true =>
  obtain ⟨p, rfl, hpl⟩ := in_nat c1
  have hpl : p < l.length := by omega
  obtain ⟨wc, hc, fc⟩ := trip_elK hr hpl
  have ixw := fun H0 : Heap => slc_idx (r := rTrip) (H1 := H0) (sz := 2) (i := p) (k := .i64) rfl hr hpl
  have fxw := fun (H0 : Heap) (o off : Nat) => slc_fad (r := rTrip) (H1 := H0) (sz := 2) (o := o) (off := off) rfl hr hpl
  have lc : ∀ H : Heap, vlen H wc = some (.int .i64 (tp l p).2.length, H) := fun _ => slc_len hc
  obtain ⟨h2, h12, hcl⟩ := tpOk_get (htp p hpl)
  have hw2 : IntKind.i64.wrap (((tp l p).2.length : Int) - 2) = ((tp l p).2.length : Int) - 2 := wrap64 (by omega) (by omega)
  simp (maxSteps := 4000000) (disch := omega) only [Zq, evO, vbox, wr, Zeq, if_true, if_false, Nat.reduceEqDiff, Nat.reduceAdd, Nat.reduceLeDiff, Nat.reduceSub, and_self, and_true, true_and, reduceIte, reduceCtorEq, eq_self, implies_true, forall_const, false_implies, imp_self, decide_true, decide_false, fix_nil, fix_cons, g0, g1, g2, t1, t2, t7, t8, t28, t29, t30, g4, g5, g5p, g6, g6p, c1, ixw, fxw, (fc H6 k06).2.2, lc, hw2]
  refine GO_call ((r_impl_between b 0 (((tp l p).2.length : Int) - 2) H6).mono ?_)
  rintro _ H7 ⟨k7, rfl⟩
  have n7 := k7.nxt
  have g7 := (k7.get (H4.nxt) (by omega)).trans g6
  have g7p := (k7.get (H1.nxt) (by omega)).trans g6p
  have k07 := k06.trans k7
  cases c2 : inR 0 (((tp l p).2.length : Int) - 2) b with
  | false =>
    simp (maxSteps := 4000000) (disch := omega) only [Zq, evO, vbox, wr, Zeq, if_true, if_false, Nat.reduceEqDiff, Nat.reduceAdd, Nat.reduceLeDiff, Nat.reduceSub, and_self, and_true, true_and, reduceIte, reduceCtorEq, eq_self, implies_true, forall_const, false_implies, imp_self, decide_true, decide_false, fix_nil, fix_cons, g0, g1, g2, t1, t2, t7, t8, t28, t29, t30, g4, g5, g5p, g6, g6p, g7, g7p, c2]
    exact ⟨k07, by rw [bad (by simp [rnOk, c1, c2])]⟩
  | true =>
  obtain ⟨q, rfl, hql⟩ := in_nat c2
  have hql : q + 1 < (tp l p).2.length := by omega
  by_cases c3 : f < t
  rotate_left
  · simp (maxSteps := 4000000) (disch := omega) only [Zq, evO, vbox, wr, Zeq, if_true, if_false, Nat.reduceEqDiff, Nat.reduceAdd, Nat.reduceLeDiff, Nat.reduceSub, and_self, and_true, true_and, reduceIte, reduceCtorEq, eq_self, implies_true, forall_const, false_implies, imp_self, decide_true, decide_false, fix_nil, fix_cons, g0, g1, g2, t1, t2, t7, t8, t28, t29, t30, g4, g5, g5p, g6, g6p, g7, g7p, c2]
    exact ⟨k07, by rw [bad (by simp [rnOk, c1, c2, c3])]⟩
  have good : rnOk l ((p : Int), (q : Int), f, t) = true := by simp [rnOk, c1, c2, c3]
  simp (maxSteps := 4000000) (disch := omega) only [Zq, evO, vbox, wr, Zeq, if_true, if_false, Nat.reduceEqDiff, Nat.reduceAdd, Nat.reduceLeDiff, Nat.reduceSub, and_self, and_true, true_and, reduceIte, reduceCtorEq, eq_self, implies_true, forall_const, false_implies, imp_self, decide_true, decide_false, fix_nil, fix_cons, g0, g1, g2, t1, t2, t7, t8, t28, t29, t30, g4, g5, g5p, g6, g6p, g7, g7p, c2]
  refine GO_call_eq (by (simp (maxSteps := 4000000) (disch := omega) only [Zq, evO, vbox, wr, Zeq, if_true, if_false, Nat.reduceEqDiff, Nat.reduceAdd, Nat.reduceLeDiff, Nat.reduceSub, and_self, and_true, true_and, reduceIte, reduceCtorEq, eq_self, implies_true, forall_const, false_implies, imp_self, decide_true, decide_false, fix_nil, fix_cons, g0, g1, g2, t1, t2, t7, t8, t28, t29, t30, g4, g5, g5p, g6, g6p, g7, g7p]) <;> rfl) ((r_impl_edge (I := .bool true) (n := n) (i := p) (k := q) ((rSlc rEdge).rdk he k07) hl ((rSlc rTrip).rdk hr k07) g7p h12 hpl hql).mono ?_)
  rintro _ H8 ⟨k8, rfl⟩
  have n8 := k8.nxt
  have g8 := (k8.get (H4.nxt) (by omega)).trans g7
  have g8p := (k8.get (H1.nxt) (by omega)).trans g7p
  have k48 := k5.trans (k6.trans (k7.trans k8))
  have oc8 := oc4.keep k48
  obtain ⟨H9, e9, o9, kk9, n9, get9⟩ := NewF.st (x := .int .i64 (lgE es l p q)) (y := lgE es l p q) (fZ_len .i64) oc8 rfl rfl (by omega : i < E.length)
  have ixc : ∀ H0 : Heap, vidx H0 1 cv (.int .i64 (i : Int)) = some (adr cv i 1 0, H0) := fun H0 => (oc8.sl (fZ_len .i64)).idx (by omega)
  have k9 : Keep H2 H9 := kk9 H2 (Nat.le_refl _) (k4.trans k48)
  have g9p := (k9.get H1.nxt (by omega)).trans g2
  have subx : ∀ H0 : Heap, vslc H0 4 none (some (.int .i64 (i : Int))) none u = some (subV u 0 i 4, H0) := fun H0 => by
    obtain ⟨csu, slu⟩ := slc_sl (sz := 4) (r := rRun) rfl ha
    exact Sl.slc_hi slu (by omega)
  have hsub := slc_take (sz := 4) (r := rRun) rfl ha (show i ≤ rs.length by omega)
  have lt : (rs.take i).length = i := by rw [List.length_take]; omega
  have lsub : ∀ H0 : Heap, vlen H0 (subV u 0 i 4) = some (.int .i64 (i : Int), H0) := fun H0 => by rw [slc_len hsub, lt]
  have hll : i < E.length := by omega
  have hbc : blk cv = H2.nxt := by rw [hcv]; rfl
  have only : ∀ a, a ≠ H2.nxt → H9.get a = H8.get a := fun a ha => by
    obtain ⟨p', p1, p2, p3, p4⟩ := oc8
    have hp' : p' = H2.nxt := by rw [p3] at hbc; exact hbc
    have hh := e9
    rw [p3] at hh
    simp only [adr, Zcq, p4] at hh
    rw [show 0 + i * 1 + 0 = i * 1 by omega, stO_elem (fZ_len .i64) rfl (y := lgE es l p q) rfl hll] at hh
    simp only [Option.some.injEq, Prod.mk.injEq, true_and] at hh
    rw [← hh, Zbi, if_neg (by omega)]
  have q4 : H2.nxt < H4.nxt := by
    obtain ⟨p', p1, p2, _⟩ := oc4
    omega
  have g9 := (only H4.nxt (by omega)).trans g8
  have hE' : ∀ j, j < i + 1 → (E.set i (lgE es l p q)).getD j 0 = rnE es l (rn rs j) := fun j hj => by
    by_cases e : j = i
    · rw [e, List.getD_eq_getElem?_getD, List.getElem?_set_self hll, ← hx]; rfl
    · rw [List.getD_eq_getElem?_getD, List.getElem?_set_ne (by omega), ← List.getD_eq_getElem?_getD]
      exact hE j (by omega)
  obtain ⟨E2, hE2⟩ : ∃ E2, E2 = E.set i (lgE es l p q) := ⟨_, rfl⟩
  have lE2 : E2.length = rs.length := by rw [hE2, List.length_set]; exact lE
  rw [← hE2] at o9 hE'
  simp (maxSteps := 4000000) (disch := omega) only [Zq, evO, vbox, wr, Zeq, if_true, if_false, Nat.reduceEqDiff, Nat.reduceAdd, Nat.reduceLeDiff, Nat.reduceSub, and_self, and_true, true_and, reduceIte, reduceCtorEq, eq_self, implies_true, forall_const, false_implies, imp_self, decide_true, decide_false, fix_nil, fix_cons, g0, g1, g2, t1, t2, t7, t8, t28, t29, t30, g4, g5, g5p, g6, g6p, g7, g7p, g8, g8p, g9p, g9, ixc, e9, subx, lsub]
  refine G_forF [1, 2, 7, 8, 9, 10, 28, 29, 30, 73, 74] (i) (fun k T H10 => T 75 = .int .i64 (k : Int) ∧ Keep H9 H10 ∧ ∀ j, j < k → rnNo es l ((p : Int), (q : Int), f, t) (rn rs j) = true) 0 (Nat.zero_le _) ?_ ?_
  · simp (maxSteps := 4000000) (disch := omega) only [Zq, evO, vbox, wr, Zeq, if_true, if_false, Nat.reduceEqDiff, Nat.reduceAdd, Nat.reduceLeDiff, Nat.reduceSub, and_self, and_true, true_and, reduceIte, reduceCtorEq, eq_self, implies_true, forall_const, false_implies, imp_self, decide_true, decide_false, fix_nil, fix_cons, g0, g1, g2, t1, t2, t7, t8, t28, t29, t30, g4, g5, g5p, g6, g6p, g7, g7p, g8, g8p, g9p, g9]
    exact ⟨Keep.refl _, fun j hj => by omega⟩
  rintro k T H10 hk hT ⟨t75, k10, hq⟩
  simp only [fix_nil, fix_cons, Zq, evO, vbox, wr, Zeq, if_true, if_false, Nat.reduceEqDiff, Nat.reduceAdd, Nat.reduceLeDiff, Nat.reduceSub, and_self, and_true, true_and, reduceIte, reduceCtorEq, eq_self, implies_true, forall_const, false_implies, imp_self, decide_true, decide_false, t1, t2, t7, t8, t28, t29, t30] at hT
  obtain ⟨t1, t2, t7, t8, t9, t10, t28, t29, t30, t73, t74⟩ := hT
  have n10 := k10.nxt
  have k210 := k9.trans k10
  have k010 := k02.trans k210
  have g10 := (k10.get H4.nxt (by omega)).trans g9
  by_cases hki : k < i
  rotate_left
  · obtain rfl : k = i := by omega
    simp (maxSteps := 4000000) (disch := omega) only [Zq, evO, vbox, wr, Zeq, if_true, if_false, Nat.reduceEqDiff, Nat.reduceAdd, Nat.reduceLeDiff, Nat.reduceSub, and_self, and_true, true_and, reduceIte, reduceCtorEq, eq_self, implies_true, forall_const, false_implies, imp_self, decide_true, decide_false, fix_nil, fix_cons, g0, g1, g2, t1, t2, t7, t8, t28, t29, t30, g4, g5, g5p, g6, g6p, g7, g7p, g8, g8p, g9p, g9, t9, t10, t73, t74, t75, g10, lsub]
    exact ⟨hin, k210, ⟨E2, o9.keep k10, lE2, hE'⟩, upto_succ hp (by rw [hrow, good, allTo_iff.2 hq]; rfl)⟩
  have hkr : k < rs.length := by omega
  have hkl : k < (rs.take i).length := by rw [lt]; exact hki
  have e0 : rn (rs.take i) k = rn rs k := by rw [rn, rn, List.getD_eq_getElem?_getD, List.getElem?_take_of_lt hki, ← List.getD_eq_getElem?_getD]
  have ldk := (run_elK hsub hkl H10 k010).1
  rw [e0] at ldk
  have ixk := fun H0 : Heap => slc_idx (r := rRun) (H1 := H0) (sz := 4) (i := k) (k := .i64) rfl hsub hkl
  have hno : rnNo es l ((p : Int), (q : Int), f, t) (rn rs k) = !(decide (rnE es l (rn rs k) = rnE es l ((p : Int), (q : Int), f, t)) && (decide ((rn rs k).2.2.1 < t) && decide (f < (rn rs k).2.2.2))) := rfl
  have hk' := hE' k (by omega)
  have hi' := hE' i (by omega)
  rw [← hx] at hi'
  generalize hy : rn rs k = y at ldk hno hk'
  obtain ⟨a', b', f', t'⟩ := y
  simp only [] at ldk hno
  have hI : Ints H10 cv E2 := by
    have := (o9.keep k10).sl (fZ_len .i64)
    rw [fcZ] at this
    exact this
  simp (maxSteps := 4000000) (disch := omega) only [Zq, evO, vbox, wr, Zeq, if_true, if_false, Nat.reduceEqDiff, Nat.reduceAdd, Nat.reduceLeDiff, Nat.reduceSub, and_self, and_true, true_and, reduceIte, reduceCtorEq, eq_self, implies_true, forall_const, false_implies, imp_self, decide_true, decide_false, fix_nil, fix_cons, g0, g1, g2, t1, t2, t7, t8, t28, t29, t30, g4, g5, g5p, g6, g6p, g7, g7p, g8, g8p, g9p, g9, t9, t10, t73, t74, t75, g10, lsub, ixk, ldk]
  generalize hG11 : (H10.push [.int .i64 0, .int .i64 0, .int .i64 0, .int .i64 0]).set H10.nxt [.int .i64 a', .int .i64 b', .int .i64 f', .int .i64 t'] = H11
  have k11 : Keep H10 H11 := by rw [← hG11]; repeat' (first | exact Keep.refl _ | assumption | refine Keep.push' ?_ | refine Keep.set' ?_ ?_ | refine Keep.moved' ?_ ?_ | omega)
  have g11 : H11.get H10.nxt = some (.own [.int .i64 a', .int .i64 b', .int .i64 f', .int .i64 t']) := by rw [← hG11, Zbi, if_pos rfl]
  have n11 : H11.nxt = H10.nxt + 1 := by rw [← hG11, Zbh, Zbg]
  have g11r := (k11.get H4.nxt (by omega)).trans g10
  clear hG11
  have hIB := IntsK.keep hI k11
  have cxk := fun H0 : Heap => IntsK.idx (k' := .i64) (H1 := H0) hIB (by omega : k < E2.length)
  have cxi := fun H0 : Heap => IntsK.idx (k' := .i64) (H1 := H0) hIB (by omega : i < E2.length)
  have clk := IntsK.ld hIB (by omega : k < E2.length)
  have cli := IntsK.ld hIB (by omega : i < E2.length)
  rw [hk'] at clk
  rw [hi'] at cli
  refine G_calm rfl ?_
  by_cases c4 : rnE es l (a', b', f', t') = rnE es l ((p : Int), (q : Int), f, t)
  rotate_left
  · simp (maxSteps := 4000000) (disch := omega) only [Zq, evO, vbox, wr, Zeq, if_true, if_false, Nat.reduceEqDiff, Nat.reduceAdd, Nat.reduceLeDiff, Nat.reduceSub, and_self, and_true, true_and, reduceIte, reduceCtorEq, eq_self, implies_true, forall_const, false_implies, imp_self, decide_true, decide_false, fix_nil, fix_cons, g0, g1, g2, t1, t2, t7, t8, t28, t29, t30, g4, g5, g5p, g6, g6p, g7, g7p, g8, g8p, g9p, g9, t9, t10, t73, t74, t75, g10, g11, g11r, cxk, cxi, clk, cli, Zfm c4]
    exact ⟨hki, k10.trans k11, upto_succ hq (by rw [hy, hno, decide_eq_false c4]; rfl)⟩
  by_cases c6 : f < t'
  rotate_left
  · simp (maxSteps := 4000000) (disch := omega) only [Zq, evO, vbox, wr, Zeq, if_true, if_false, Nat.reduceEqDiff, Nat.reduceAdd, Nat.reduceLeDiff, Nat.reduceSub, and_self, and_true, true_and, reduceIte, reduceCtorEq, eq_self, implies_true, forall_const, false_implies, imp_self, decide_true, decide_false, fix_nil, fix_cons, g0, g1, g2, t1, t2, t7, t8, t28, t29, t30, g4, g5, g5p, g6, g6p, g7, g7p, g8, g8p, g9p, g9, t9, t10, t73, t74, t75, g10, g11, g11r, cxk, cxi, clk, cli, Zfl c4, Zfi c6]
    exact ⟨hki, k10.trans k11, upto_succ hq (by rw [hy, hno, decide_eq_false c6, Bool.and_false, Bool.and_false]; rfl)⟩
  by_cases c5 : f' < t
  rotate_left
  · simp (maxSteps := 4000000) (disch := omega) only [Zq, evO, vbox, wr, Zeq, if_true, if_false, Nat.reduceEqDiff, Nat.reduceAdd, Nat.reduceLeDiff, Nat.reduceSub, and_self, and_true, true_and, reduceIte, reduceCtorEq, eq_self, implies_true, forall_const, false_implies, imp_self, decide_true, decide_false, fix_nil, fix_cons, g0, g1, g2, t1, t2, t7, t8, t28, t29, t30, g4, g5, g5p, g6, g6p, g7, g7p, g8, g8p, g9p, g9, t9, t10, t73, t74, t75, g10, g11, g11r, cxk, cxi, clk, cli, Zfl c4, Zfh c6, Zfi c5]
    exact ⟨hki, k10.trans k11, upto_succ hq (by rw [hy, hno, decide_eq_false c5, Bool.false_and, Bool.and_false]; rfl)⟩
  simp (maxSteps := 4000000) (disch := omega) only [Zq, evO, vbox, wr, Zeq, if_true, if_false, Nat.reduceEqDiff, Nat.reduceAdd, Nat.reduceLeDiff, Nat.reduceSub, and_self, and_true, true_and, reduceIte, reduceCtorEq, eq_self, implies_true, forall_const, false_implies, imp_self, decide_true, decide_false, fix_nil, fix_cons, g0, g1, g2, t1, t2, t7, t8, t28, t29, t30, g4, g5, g5p, g6, g6p, g7, g7p, g8, g8p, g9p, g9, t9, t10, t73, t74, t75, g10, g11, g11r, cxk, cxi, clk, cli, Zfl c4, Zfh c6, Zfh c5]
  exact ⟨k010.trans k11, by rw [show apart n es l rs = false from by rw [apart, ok, decide_eq_true hu, allTo_bad hin (by rw [hrow, allTo_bad hki (by rw [hy, hno, decide_eq_true c4, decide_eq_true c5, decide_eq_true c6]; rfl), Bool.and_false])]; rfl]⟩
end
end Go.Proofs.Ytjjglonmaajjoaa.AX
