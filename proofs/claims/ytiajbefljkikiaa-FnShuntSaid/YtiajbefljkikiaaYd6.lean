/- Sidings: one shunt, of the reference. No condition beyond each law's own; of the program: the functions' forms. -/
import Derived.Test.YtiajbefljkikiaaYd5
import Derived.Test.YtiajbefljkikiaaYdP
namespace Go.Proofs.Ytiajbefljkikiaa.AX
open Go
set_option maxRecDepth 10000
set_option maxHeartbeats 4000000
set_option linter.unusedSimpArgs false
set_option linter.unusedVariables false
theorem r_spec_ShuntOne {H : Heap} {v w : Value} {room : List Int} {rows : List (List Int)} {f t m : Int} (h1 : (rSlc rInt).rd H [v] room) (h2 : (rSlc (rSlc rInt)).rd H [w] rows) (ht : rSidings.tot (room, rows) ≤ 1048576) :
    Run Try.prog 27 [.agg #[v, w], .agg #[.int .i64 f, .int .i64 t, .int .i64 m]] H fun r H' => Keep H H' ∧ ∃ cs F, r = .tuple #[rSidings.val cs, .int .i64 (s1R room rows f t m).2] ∧ rSidings.own H' cs (room, (s1R room rows f t m).1) F ∧ Fresh H H' F := by
  obtain ⟨m1, m2, m3⟩ := yard_tot ht
  obtain ⟨va, vb⟩ := slc_cell h1
  obtain ⟨wa, wb⟩ := slc_cell h2
  have lw : ∀ H : Heap, vlen H w = some (.int .i64 rows.length, H) := fun _ => slc_len h2
  refine Run.intro c27 rfl ?_
  simp (maxSteps := 4000000) (disch := omega) only [Zq, evO, vbox, wr, Zeq, if_true, if_false, Nat.reduceEqDiff, Nat.reduceAdd, Nat.reduceLeDiff, Nat.reduceSub, and_self, and_true, true_and, reduceIte, reduceCtorEq, eq_self, implies_true, forall_const, false_implies, imp_self, decide_true, decide_false, x27, va, vb, wa, wb]
  generalize hG0 : ((H.push [v, w]).push [.int .i64 f, .int .i64 t, .int .i64 m]).push [.slice none 0 0, .slice none 0 0] = H0
  have k0 : Keep H H0 := by rw [← hG0]; repeat' (first | exact Keep.refl _ | assumption | refine Keep.push' ?_ | refine Keep.set' ?_ ?_ | refine Keep.moved' ?_ ?_ | omega)
  have g0 : H0.get H.nxt = some (.own [v, w]) := by rw [← hG0]; simp (maxSteps := 4000000) (disch := omega) only [Zq, evO, vbox, wr, Zeq, if_true, if_false, Nat.reduceEqDiff, Nat.reduceAdd, Nat.reduceLeDiff, Nat.reduceSub, and_self, and_true, true_and, reduceIte, reduceCtorEq, eq_self, implies_true, forall_const, false_implies, imp_self, decide_true, decide_false]
  have g0m : H0.get (H.nxt + 1) = some (.own [.int .i64 f, .int .i64 t, .int .i64 m]) := by rw [← hG0]; simp (maxSteps := 4000000) (disch := omega) only [Zq, evO, vbox, wr, Zeq, if_true, if_false, Nat.reduceEqDiff, Nat.reduceAdd, Nat.reduceLeDiff, Nat.reduceSub, and_self, and_true, true_and, reduceIte, reduceCtorEq, eq_self, implies_true, forall_const, false_implies, imp_self, decide_true, decide_false]
  have g0r : H0.get (H.nxt + 2) = some (.own [.slice none 0 0, .slice none 0 0]) := by rw [← hG0]; simp (maxSteps := 4000000) (disch := omega) only [Zq, evO, vbox, wr, Zeq, if_true, if_false, Nat.reduceEqDiff, Nat.reduceAdd, Nat.reduceLeDiff, Nat.reduceSub, and_self, and_true, true_and, reduceIte, reduceCtorEq, eq_self, implies_true, forall_const, false_implies, imp_self, decide_true, decide_false]
  have n0 : H0.nxt = H.nxt + 3 := by rw [← hG0]; simp only [Zbg]
  refine GO_call ((r_spec_l18Copy ((rSlc rInt).rdk h1 k0) ((rSlc (rSlc rInt)).rdk h2 k0) ht).mono ?_)
  rintro _ H1 ⟨k1, cs, F, rfl, o1, fr⟩
  obtain ⟨v1, w1, rfl, _⟩ := sidings_rd (rSidings.ownrd o1)
  have n1 := k1.nxt
  have g1 := (k1.get H.nxt (by omega)).trans g0
  have g1m := (k1.get (H.nxt + 1) (by omega)).trans g0m
  have g1r := (k1.get (H.nxt + 2) (by omega)).trans g0r
  simp only [sidings_val]
  simp (maxSteps := 4000000) (disch := omega) only [Zq, evO, vbox, wr, Zeq, if_true, if_false, Nat.reduceEqDiff, Nat.reduceAdd, Nat.reduceLeDiff, Nat.reduceSub, and_self, and_true, true_and, reduceIte, reduceCtorEq, eq_self, implies_true, forall_const, false_implies, imp_self, decide_true, decide_false, fix_nil, fix_cons, g0, g0m, g0r, g1, g1m, g1r]
  generalize hG2 : (H1.push [.slice none 0 0, .slice none 0 0]).set H1.nxt [v1, w1] = H2
  have k2 : Keep H1 H2 := by rw [← hG2]; repeat' (first | exact Keep.refl _ | assumption | refine Keep.push' ?_ | refine Keep.set' ?_ ?_ | refine Keep.moved' ?_ ?_ | omega)
  have g2 : H2.get H1.nxt = some (.own [v1, w1]) := by rw [← hG2, Zbi, if_pos rfl]
  have n2 : H2.nxt = H1.nxt + 1 := by rw [← hG2, Zbh, Zbg]
  have y2 := own_yrd o1 fr n1 k2 (by omega) g2
  have g2a := (k2.get H.nxt (by omega)).trans g1
  have g2m := (k2.get (H.nxt + 1) (by omega)).trans g1m
  have g2r := (k2.get (H.nxt + 2) (by omega)).trans g1r
  have k02 : Keep H H2 := k0.trans (k1.trans k2)
  have fin : ∀ (Hx : Heap) (rows' : List (List Int)) (c : Int), Keep H Hx → Yrd H0 Hx H1.nxt room rows' → rows' = (s1R room rows f t m).1 → c = (s1R room rows f t m).2 → ∃ v4 w4, Hx.get H1.nxt = some (.own [v4, w4]) ∧ (Keep H (Hx.set (H.nxt + 2) [v4, w4]) ∧ ∃ cs F, Value.tuple #[.agg #[v4, w4], .int .i64 c] = .tuple #[rSidings.val cs, .int .i64 (s1R room rows f t m).2] ∧ rSidings.own (Hx.set (H.nxt + 2) [v4, w4]) cs (room, (s1R room rows f t m).1) F ∧ Fresh H (Hx.set (H.nxt + 2) [v4, w4]) F) := by
    rintro Hx rows' c kx yx rfl rfl
    obtain ⟨v4, w4, F4, g4, o4, fr4⟩ := yrd_own yx
    refine ⟨v4, w4, g4, kx.set' (by omega), [v4, w4], F4, rfl, rSidings.ownk o4 (by rw [Zbh]; omega) (fun a ha => ?_), fr4.1, fun a ha => ?_⟩
    · have := fr4.2 a ha
      rw [Zbi, if_neg (by omega)]
    · have := fr4.2 a ha
      rw [Zbh]
      omega
  clear hG0 hG2 fr o1 g0 g0m g0r g1 g1m g1r
  refine GO_call ((r_spec_SidingsOk ((rSlc rInt).rdk h1 k02) ((rSlc (rSlc rInt)).rdk h2 k02) ht).mono ?_)
  rintro _ H3 ⟨k3, rfl⟩
  have n3 := k3.nxt
  have y3 := y2.keep k3
  have g3a := (k3.get H.nxt (by omega)).trans g2a
  have g3m := (k3.get (H.nxt + 1) (by omega)).trans g2m
  have g3r := (k3.get (H.nxt + 2) (by omega)).trans g2r
  have k03 := k02.trans k3
  by_cases hy : yardOk room rows = true
  rotate_left
  · have hy' : yardOk room rows = false := by simpa using hy
    obtain ⟨v4, w4, g4, hfin⟩ := fin H3 rows 1 k03 y3 (by rw [s1R, if_neg hy]) (by rw [s1R, if_neg hy])
    simp (maxSteps := 4000000) (disch := omega) only [Zq, evO, vbox, wr, Zeq, if_true, if_false, Nat.reduceEqDiff, Nat.reduceAdd, Nat.reduceLeDiff, Nat.reduceSub, and_self, and_true, true_and, reduceIte, reduceCtorEq, eq_self, implies_true, forall_const, false_implies, imp_self, decide_true, decide_false, fix_nil, fix_cons, g2, g2a, g2m, g2r, g3a, g3m, g3r, g4, hy']
    exact hfin
  have hs : s1R room rows f t m = shR room rows f t m := by rw [s1R, if_pos hy]
  obtain ⟨l1, _, l3⟩ := yardOk_len hy
  have hw1 : IntKind.i64.wrap ((rows.length : Int) - 1) = (rows.length : Int) - 1 := wrap64 (by omega) (by omega)
  have bad : ∀ (Hx : Heap), Keep H Hx → Yrd H0 Hx H1.nxt room rows → shOk rows.length f t m = false → ∃ v4 w4, Hx.get H1.nxt = some (.own [v4, w4]) ∧ (Keep H (Hx.set (H.nxt + 2) [v4, w4]) ∧ ∃ cs F, Value.tuple #[.agg #[v4, w4], .int .i64 1] = .tuple #[rSidings.val cs, .int .i64 (s1R room rows f t m).2] ∧ rSidings.own (Hx.set (H.nxt + 2) [v4, w4]) cs (room, (s1R room rows f t m).1) F ∧ Fresh H (Hx.set (H.nxt + 2) [v4, w4]) F) := fun Hx kx yx hb =>
    fin Hx rows 1 kx yx (by rw [hs, shR_bad hb]) (by rw [hs, shR_bad hb])
  simp (maxSteps := 4000000) (disch := omega) only [Zq, evO, vbox, wr, Zeq, if_true, if_false, Nat.reduceEqDiff, Nat.reduceAdd, Nat.reduceLeDiff, Nat.reduceSub, and_self, and_true, true_and, reduceIte, reduceCtorEq, eq_self, implies_true, forall_const, false_implies, imp_self, decide_true, decide_false, fix_nil, fix_cons, g2, g2a, g2m, g2r, g3a, g3m, g3r, hy, lw, hw1]
  refine GO_call ((r_spec_l01In f 0 ((rows.length : Int) - 1) _).mono ?_)
  rintro _ H4 ⟨k4, rfl⟩
  have n4 := k4.nxt
  have y4 := y3.keep k4
  have g4a := (k4.get H.nxt (by omega)).trans g3a
  have g4m := (k4.get (H.nxt + 1) (by omega)).trans g3m
  have g4r := (k4.get (H.nxt + 2) (by omega)).trans g3r
  have k04 := k03.trans k4
  by_cases c1 : inR 0 ((rows.length : Int) - 1) f = true
  rotate_left
  · have c1' : inR 0 ((rows.length : Int) - 1) f = false := by simpa using c1
    obtain ⟨v4, w4, g4, hfin⟩ := bad H4 k04 y4 (by simp [shOk, c1'])
    simp (maxSteps := 4000000) (disch := omega) only [Zq, evO, vbox, wr, Zeq, if_true, if_false, Nat.reduceEqDiff, Nat.reduceAdd, Nat.reduceLeDiff, Nat.reduceSub, and_self, and_true, true_and, reduceIte, reduceCtorEq, eq_self, implies_true, forall_const, false_implies, imp_self, decide_true, decide_false, fix_nil, fix_cons, g2, g2a, g2m, g2r, g3a, g3m, g3r, g4a, g4m, g4r, g4, c1']
    exact hfin
  simp (maxSteps := 4000000) (disch := omega) only [Zq, evO, vbox, wr, Zeq, if_true, if_false, Nat.reduceEqDiff, Nat.reduceAdd, Nat.reduceLeDiff, Nat.reduceSub, and_self, and_true, true_and, reduceIte, reduceCtorEq, eq_self, implies_true, forall_const, false_implies, imp_self, decide_true, decide_false, fix_nil, fix_cons, g2, g2a, g2m, g2r, g3a, g3m, g3r, g4a, g4m, g4r, c1, lw, hw1]
  refine GO_call ((r_spec_l01In t 0 ((rows.length : Int) - 1) _).mono ?_)
  rintro _ H5 ⟨k5, rfl⟩
  have n5 := k5.nxt
  have y5 := y4.keep k5
  have g5a := (k5.get H.nxt (by omega)).trans g4a
  have g5m := (k5.get (H.nxt + 1) (by omega)).trans g4m
  have g5r := (k5.get (H.nxt + 2) (by omega)).trans g4r
  have k05 := k04.trans k5
  clear k4 k3 k2 k1 g3a g3m g3r g4a g4m g4r g2a g2m g2r y2 y3 y4 k02 k03 k04
  by_cases c2 : inR 0 ((rows.length : Int) - 1) t = true
  rotate_left
  · have c2' : inR 0 ((rows.length : Int) - 1) t = false := by simpa using c2
    obtain ⟨v4, w4, g4, hfin⟩ := bad H5 k05 y5 (by simp [shOk, c2'])
    simp (maxSteps := 4000000) (disch := omega) only [Zq, evO, vbox, wr, Zeq, if_true, if_false, Nat.reduceEqDiff, Nat.reduceAdd, Nat.reduceLeDiff, Nat.reduceSub, and_self, and_true, true_and, reduceIte, reduceCtorEq, eq_self, implies_true, forall_const, false_implies, imp_self, decide_true, decide_false, fix_nil, fix_cons, g2, g5a, g5m, g5r, g4, c2']
    exact hfin
  by_cases c3 : f = t
  · obtain ⟨v4, w4, g4, hfin⟩ := bad H5 k05 y5 (by simp [shOk, c3])
    simp (maxSteps := 4000000) (disch := omega) only [Zq, evO, vbox, wr, Zeq, if_true, if_false, Nat.reduceEqDiff, Nat.reduceAdd, Nat.reduceLeDiff, Nat.reduceSub, and_self, and_true, true_and, reduceIte, reduceCtorEq, eq_self, implies_true, forall_const, false_implies, imp_self, decide_true, decide_false, fix_nil, fix_cons, g2, g5a, g5m, g5r, g4, c2, Zfl c3]
    exact hfin
  by_cases c4 : m < 1
  · obtain ⟨v4, w4, g4, hfin⟩ := bad H5 k05 y5 (by simp [shOk]; omega)
    simp (maxSteps := 4000000) (disch := omega) only [Zq, evO, vbox, wr, Zeq, if_true, if_false, Nat.reduceEqDiff, Nat.reduceAdd, Nat.reduceLeDiff, Nat.reduceSub, and_self, and_true, true_and, reduceIte, reduceCtorEq, eq_self, implies_true, forall_const, false_implies, imp_self, decide_true, decide_false, fix_nil, fix_cons, g2, g5a, g5m, g5r, g4, c2, Zfm c3, Zfh c4]
    exact hfin
  have hok := shOk_ok c1 c2 c3 c4
  have b1 := inR_iff.1 c1
  have b2 := inR_iff.1 c2
  simp (maxSteps := 4000000) (disch := omega) only [Zq, evO, vbox, wr, Zeq, if_true, if_false, Nat.reduceEqDiff, Nat.reduceAdd, Nat.reduceLeDiff, Nat.reduceSub, and_self, and_true, true_and, reduceIte, reduceCtorEq, eq_self, implies_true, forall_const, false_implies, imp_self, decide_true, decide_false, fix_nil, fix_cons, g2, g5a, g5m, g5r, c2, Zfm c3, Zfi c4]
  first | refine G_fix [2, 3, 4, 6] ?_ | refine GO_fix [2, 3, 4, 6] ?_ | refine cK_fix [2, 3, 4, 6] ?_
  intro T hT
  simp only [fix_nil, fix_cons, Zq, evO, vbox, wr, Zeq, if_true, if_false, Nat.reduceEqDiff, Nat.reduceAdd, Nat.reduceLeDiff, Nat.reduceSub, and_self, and_true, true_and, reduceIte, reduceCtorEq, eq_self, implies_true, forall_const, false_implies, imp_self, decide_true, decide_false] at hT
  obtain ⟨t2, t3, t4, t6⟩ := hT
  clear bad hw1
  obtain ⟨f, rfl⟩ : ∃ n : Nat, f = n := ⟨f.toNat, by omega⟩
  obtain ⟨t, rfl⟩ : ∃ n : Nat, t = n := ⟨t.toNat, by omega⟩
  obtain ⟨m, rfl⟩ : ∃ n : Nat, m = n := ⟨m.toNat, by omega⟩
  have hf : f < rows.length := by omega
  have ht' : t < rows.length := by omega
  have hft : f ≠ t := by omega
  have gf : rows.getD f [] = rows[f] := getD_get rows [] hf
  have gt : rows.getD t [] = rows[t] := getD_get rows [] ht'
  clear b1 b2 c1 c2 c3 c4
  obtain ⟨fv, ef, rdf, fi⟩ := row_el ((rSlc (rSlc rInt)).rdk h2 k05) hf
  obtain ⟨tv, et, rdt, ti⟩ := row_el ((rSlc (rSlc rInt)).rdk h2 k05) ht'
  have if_ : ∀ H0 : Heap, vidx H0 1 w (.int .i64 (f : Int)) = some (adr w f 1 0, H0) := fun H0 => slc_idx (r := rSlc rInt) (sz := 1) rfl h2 hf
  have it_ : ∀ H0 : Heap, vidx H0 1 w (.int .i64 (t : Int)) = some (adr w t 1 0, H0) := fun H0 => slc_idx (r := rSlc rInt) (sz := 1) rfl h2 ht'
  have lf : ∀ H : Heap, vlen H fv = some (.int .i64 (rows[f]).length, H) := fun _ => slc_len rdf
  have lt : ∀ H : Heap, vlen H tv = some (.int .i64 (rows[t]).length, H) := fun _ => slc_len rdt
  have hyi := (yardOk_iff.1 hy).2.2.1 t ht'
  have hri := inR_iff.1 hyi.1
  have htr : t < room.length := by omega
  have ri := ints_of ((rSlc rInt).rdk h1 k05)
  have ia := fun H0 : Heap => IntsK.idx (H1 := H0) (k' := .i64) ri htr
  have il := IntsK.ld ri htr
  have hlf := yard_row hy hf
  have hlt := yard_row hy ht'
  refine G_calm rfl ?_
  simp (maxSteps := 4000000) (disch := omega) only [Zq, evO, vbox, wr, Zeq, if_true, if_false, Nat.reduceEqDiff, Nat.reduceAdd, Nat.reduceLeDiff, Nat.reduceSub, and_self, and_true, true_and, reduceIte, reduceCtorEq, eq_self, implies_true, forall_const, false_implies, imp_self, decide_true, decide_false, fix_nil, fix_cons, g2, g5a, g5m, g5r, t2, t3, t4, t6, if_, ef, lf]
  by_cases c5 : ((rows[f]).length : Int) < m
  · obtain ⟨v4, w4, g4, hfin⟩ := fin H5 rows 2 k05 y5 (by rw [hs, shR_few hok (by rw [gf]; exact c5)]) (by rw [hs, shR_few hok (by rw [gf]; exact c5)])
    simp (maxSteps := 4000000) (disch := omega) only [Zq, evO, vbox, wr, Zeq, if_true, if_false, Nat.reduceEqDiff, Nat.reduceAdd, Nat.reduceLeDiff, Nat.reduceSub, and_self, and_true, true_and, reduceIte, reduceCtorEq, eq_self, implies_true, forall_const, false_implies, imp_self, decide_true, decide_false, fix_nil, fix_cons, g2, g5a, g5m, g5r, t2, t3, t4, t6, g4, Zfh c5]
    exact hfin
  simp (maxSteps := 4000000) (disch := omega) only [Zq, evO, vbox, wr, Zeq, if_true, if_false, Nat.reduceEqDiff, Nat.reduceAdd, Nat.reduceLeDiff, Nat.reduceSub, and_self, and_true, true_and, reduceIte, reduceCtorEq, eq_self, implies_true, forall_const, false_implies, imp_self, decide_true, decide_false, fix_nil, fix_cons, g2, g5a, g5m, g5r, t2, t3, t4, t6, Zfi c5]
  first | refine G_fix [2, 3, 4, 6] ?_ | refine GO_fix [2, 3, 4, 6] ?_ | refine cK_fix [2, 3, 4, 6] ?_
  intro T hT
  simp only [fix_nil, fix_cons, Zq, evO, vbox, wr, Zeq, if_true, if_false, Nat.reduceEqDiff, Nat.reduceAdd, Nat.reduceLeDiff, Nat.reduceSub, and_self, and_true, true_and, reduceIte, reduceCtorEq, eq_self, implies_true, forall_const, false_implies, imp_self, decide_true, decide_false, t2, t3, t4, t6] at hT
  obtain ⟨t2, t3, t4, t6⟩ := hT
  refine G_calm rfl ?_
  have hw2 : IntKind.i64.wrap (room.getD t 0 - ((rows[t]).length : Int)) = room.getD t 0 - (rows[t]).length := wrap64 (by omega) (by omega)
  simp (maxSteps := 4000000) (disch := omega) only [Zq, evO, vbox, wr, Zeq, if_true, if_false, Nat.reduceEqDiff, Nat.reduceAdd, Nat.reduceLeDiff, Nat.reduceSub, and_self, and_true, true_and, reduceIte, reduceCtorEq, eq_self, implies_true, forall_const, false_implies, imp_self, decide_true, decide_false, fix_nil, fix_cons, g2, g5a, g5m, g5r, t2, t3, t4, t6, it_, et, lt, ia, il, hw2]
  by_cases c6 : room.getD t 0 - ((rows[t]).length : Int) < m
  · have c6' : room.getD t 0 < (rows[t]).length + (m : Int) := by omega
    obtain ⟨v4, w4, g4, hfin⟩ := fin H5 rows 3 k05 y5 (by rw [hs, shR_full hok (by rw [gf]; exact c5) (by rw [gt]; exact c6')]) (by rw [hs, shR_full hok (by rw [gf]; exact c5) (by rw [gt]; exact c6')])
    simp (maxSteps := 4000000) (disch := omega) only [Zq, evO, vbox, wr, Zeq, if_true, if_false, Nat.reduceEqDiff, Nat.reduceAdd, Nat.reduceLeDiff, Nat.reduceSub, and_self, and_true, true_and, reduceIte, reduceCtorEq, eq_self, implies_true, forall_const, false_implies, imp_self, decide_true, decide_false, fix_nil, fix_cons, g2, g5a, g5m, g5r, t2, t3, t4, t6, g4, Zfh c6]
    exact hfin
  have hm1 : ¬ ((rows.getD f []).length : Int) < m := by rw [gf]; exact c5
  have hm2 : ¬ room.getD t 0 < (rows.getD t []).length + (m : Int) := by rw [gt]; omega
  have hdone := shR_done hok hm1 hm2
  rw [gf, gt] at hdone
  have hw : IntKind.i64.wrap (((rows[f]).length : Int) - m) = (((rows[f]).length - m : Nat) : Int) := by rw [wrap64 (by omega) (by omega)]; omega
  obtain ⟨cut, hcut⟩ : ∃ c, c = rows[f].length - m := ⟨_, rfl⟩
  rw [← hcut] at hw hdone
  simp (maxSteps := 4000000) (disch := omega) only [Zq, evO, vbox, wr, Zeq, if_true, if_false, Nat.reduceEqDiff, Nat.reduceAdd, Nat.reduceLeDiff, Nat.reduceSub, and_self, and_true, true_and, reduceIte, reduceCtorEq, eq_self, implies_true, forall_const, false_implies, imp_self, decide_true, decide_false, fix_nil, fix_cons, g2, g5a, g5m, g5r, t2, t3, t4, t6, Zfi c6]
  first | refine G_fix [2, 3, 4, 6] ?_ | refine GO_fix [2, 3, 4, 6] ?_ | refine cK_fix [2, 3, 4, 6] ?_
  intro T hT
  simp only [fix_nil, fix_cons, Zq, evO, vbox, wr, Zeq, if_true, if_false, Nat.reduceEqDiff, Nat.reduceAdd, Nat.reduceLeDiff, Nat.reduceSub, and_self, and_true, true_and, reduceIte, reduceCtorEq, eq_self, implies_true, forall_const, false_implies, imp_self, decide_true, decide_false, t2, t3, t4, t6] at hT
  obtain ⟨t2, t3, t4, t6⟩ := hT
  refine G_calm rfl ?_
  simp (maxSteps := 4000000) (disch := omega) only [Zq, evO, vbox, wr, Zeq, if_true, if_false, Nat.reduceEqDiff, Nat.reduceAdd, Nat.reduceLeDiff, Nat.reduceSub, and_self, and_true, true_and, reduceIte, reduceCtorEq, eq_self, implies_true, forall_const, false_implies, imp_self, decide_true, decide_false, fix_nil, fix_cons, g2, g5a, g5m, g5r, t2, t3, t4, t6, if_, ef, lf, hw]
  have hcl : (rows[f].drop cut).length = m := by rw [List.length_drop]; omega
  refine G_forF [2, 3, 4, 6, 7] (m) (fun k T Hk => T 8 = .int .i64 ((cut + k : Nat) : Int) ∧ Kp H0 H5 Hk ∧ Yrd H0 Hk H1.nxt room (rows.set t (rows[t] ++ (rows[f].drop cut).take k))) 0 (Nat.zero_le _) ?_ ?_
  · simp (maxSteps := 4000000) (disch := omega) only [Zq, evO, vbox, wr, Zeq, if_true, if_false, Nat.reduceEqDiff, Nat.reduceAdd, Nat.reduceLeDiff, Nat.reduceSub, and_self, and_true, true_and, reduceIte, reduceCtorEq, eq_self, implies_true, forall_const, false_implies, imp_self, decide_true, decide_false, fix_nil, fix_cons, g2, g5a, g5m, g5r, t2, t3, t4, t6]
    refine ⟨Kp.refl _ _, ?_⟩
    rw [List.set_getElem_self]
    exact y5
  rintro k T Hk hk hT ⟨t8, kp, yk⟩
  simp only [fix_nil, fix_cons, Zq, evO, vbox, wr, Zeq, if_true, if_false, Nat.reduceEqDiff, Nat.reduceAdd, Nat.reduceLeDiff, Nat.reduceSub, and_self, and_true, true_and, reduceIte, reduceCtorEq, eq_self, implies_true, forall_const, false_implies, imp_self, decide_true, decide_false, t2, t3, t4, t6] at hT
  obtain ⟨t2, t3, t4, t6, t7⟩ := hT
  have nk := kp.nxt
  have k0k : Keep H Hk := ⟨by omega, fun a ha => by rw [kp.get a (by omega), k05.get a ha]⟩
  have g9a := (kp.get H.nxt (by omega)).trans g5a
  have g9m := (kp.get (H.nxt + 1) (by omega)).trans g5m
  have g9r := (kp.get (H.nxt + 2) (by omega)).trans g5r
  have rdk2 := (rSlc (rSlc rInt)).rdk h2 k0k
  obtain ⟨fv', efk, rdfk, fik⟩ := row_el rdk2 hf
  have lfk : ∀ H : Heap, vlen H fv' = some (.int .i64 (rows[f]).length, H) := fun _ => slc_len rdfk
  by_cases hkm : k < m
  · have hkl : cut + k < rows[f].length := by omega
    have ht2 : t < (rows.set t (rows[t] ++ (rows[f].drop cut).take k)).length := by rw [List.length_set]; exact ht'
    obtain ⟨v6, w6, gq, _, rdw, hbB, hbH, hbq, rv, G, hbG, er, og, ndg, hG, put⟩ := yrd_focus yk ht2
    rw [List.getElem_set_self] at og
    obtain ⟨u, H6, F6, e6, o6, c6', f6, nd6, _⟩ := own_app (r := rInt) (bytes := 8) (sz := 1) rfl (by omega) og (row := [.int .i64 (rows[f].getD (cut + k) 0)]) (y := rows[f].getD (cut + k) 0) (G := []) ⟨rfl, rfl⟩ ndg (by simp) (by simp) (by rw [List.length_append, List.length_take]; omega)
    have n6 := c6'.nxt
    obtain ⟨H7, e7, y7, n7, old⟩ := put H6 u _ F6 c6' o6 (fun a ha => by
      rcases f6 a ha with h | h | h
      · exact .inl h
      · simp at h
      · exact .inr h.1) nd6
    have hset : (rows.set t (rows[t] ++ (rows[f].drop cut).take k)).set t (rows[t] ++ (rows[f].drop cut).take k ++ [rows[f].getD (cut + k) 0]) = rows.set t (rows[t] ++ (rows[f].drop cut).take (k + 1)) := by
      rw [List.set_set, take_snoc' _ (show k < (rows[f].drop cut).length by omega), List.getElem_drop, ← getD_get rows[f] 0 hkl, List.append_assoc]
    rw [hset] at y7
    have ixk : ∀ H0 : Heap, vidx H0 1 w6 (.int .i64 (t : Int)) = some (adr w6 t 1 0, H0) := fun H0 => slc_idx (r := rSlc rInt) (sz := 1) rfl rdw ht2
    have ixf : ∀ H0 : Heap, vidx H0 1 fv' (.int .i64 ((cut + k : Nat) : Int)) = some (adr fv' (cut + k) 1 0, H0) := fun H0 => fik.idx hkl
    have ldf := IntsK.ld fik hkl
    have hfin : Kp H0 H5 H7 := ⟨by omega, fun a ha => by rw [(old a (.inr ha) (by omega)).1, kp.get a ha]⟩
    have hbw := slc_blk h2 hf
    have hbf : blk fv' < Hk.nxt := slc_blk rdfk hkl
    have a1 := (old H1.nxt (.inl rfl) yk.2.1).2
    have a2 := (old H.nxt (.inr (by omega)) (by omega)).2
    have a3 := (old (H.nxt + 1) (.inr (by omega)) (by omega)).2
    have a4 := (old (blk w) (.inr (by omega)) (by omega)).2
    have a5 := c6'.get (blk w6) hbH hbG
    have hq := yk.2.1
    simp (maxSteps := 4000000) (disch := omega) only [Zq, evO, vbox, wr, Zeq, if_true, if_false, Nat.reduceEqDiff, Nat.reduceAdd, Nat.reduceLeDiff, Nat.reduceSub, and_self, and_true, true_and, reduceIte, reduceCtorEq, eq_self, implies_true, forall_const, false_implies, imp_self, decide_true, decide_false, fix_nil, fix_cons, g2, g5a, g5m, g5r, t2, t3, t4, t6, t7, t8, g9a, g9m, g9r, if_, efk, lfk]
    simp (maxSteps := 4000000) (disch := omega) only [ZD, Zio, Zip, pre_, beq_self_eq_true, Nat.reduceBEq, Zq, evO, vbox, wr, Zeq, if_true, if_false, Nat.reduceEqDiff, Nat.reduceAdd, Nat.reduceLeDiff, Nat.reduceSub, and_self, and_true, true_and, reduceIte, reduceCtorEq, eq_self, implies_true, forall_const, false_implies, imp_self, decide_true, decide_false, fix_nil, fix_cons, g2, g5a, g5m, g5r, t2, t3, t4, t6, t7, t8, g9a, g9m, g9r, G_dreg, GD_app, gq, if_, ixk, er, efk, ixf, ldf, e6, e7, slc_trL (r := rSlc rInt) (sz := 1) rfl h2 hf, slc_trL (r := rSlc rInt) (sz := 1) rfl rdw ht2, Sl.trL fik hkl, a1, a2, a3, a4, a5]
    first | with_reducible refine And.intro (by repeat' (first | apply And.intro | omega)) ?_ | skip
    exact ⟨hkm, hfin, y7⟩
  obtain rfl : m = k := by omega
  rw [← hcl, List.take_length] at yk
  have hf2 : f < (rows.set t (rows[t] ++ rows[f].drop cut)).length := by rw [List.length_set]; exact hf
  obtain ⟨v6, w6, gq, _, rdw, hbB, hbH, hbq, rv, G, hbG, er, og, ndg, hG, put⟩ := yrd_focus yk hf2
  have hcle : cut ≤ rows[f].length := by omega
  have hsl := fun H1 : Heap => Sl.slc_hi (H1 := H1) (k := .i64) fik hcle
  have hsub := IntsK.sub fik (Nat.zero_le cut) hcle
  rw [List.drop_zero, Nat.sub_zero] at hsub
  have hbw := slc_blk h2 hf
  have a4 := kp.get (blk w) (by omega)
  have ixk : ∀ H0 : Heap, vidx H0 1 w6 (.int .i64 (f : Int)) = some (adr w6 f 1 0, H0) := fun H0 => slc_idx (r := rSlc rInt) (sz := 1) rfl rdw hf2
  simp (maxSteps := 4000000) (disch := omega) only [Zq, evO, vbox, wr, Zeq, if_true, if_false, Nat.reduceEqDiff, Nat.reduceAdd, Nat.reduceLeDiff, Nat.reduceSub, and_self, and_true, true_and, reduceIte, reduceCtorEq, eq_self, implies_true, forall_const, false_implies, imp_self, decide_true, decide_false, fix_nil, fix_cons, g2, g5a, g5m, g5r, t2, t3, t4, t6, t7, t8, g9a, g9m, g9r, if_, efk, lfk]
  simp (maxSteps := 4000000) (disch := omega) only [ZD, Zio, Zip, pre_, beq_self_eq_true, Nat.reduceBEq, Zq, evO, vbox, wr, Zeq, if_true, if_false, Nat.reduceEqDiff, Nat.reduceAdd, Nat.reduceLeDiff, Nat.reduceSub, and_self, and_true, true_and, reduceIte, reduceCtorEq, eq_self, implies_true, forall_const, false_implies, imp_self, decide_true, decide_false, fix_nil, fix_cons, g2, g5a, g5m, g5r, t2, t3, t4, t6, t7, t8, g9a, g9m, g9r, G_dreg, gq, if_, efk, hsl, ixk]
  refine GD_call ((r_spec_l01Copy hsub (by rw [List.length_take]; omega)).mono ?_)
  rintro c H6 ⟨k6, oc⟩
  have n6 := k6.nxt
  obtain ⟨Fc, oc, frc⟩ := oc.ownI
  obtain ⟨H7, e7, y7, n7, old⟩ := put H6 c _ Fc k6.chg oc (fun a ha => .inr (frc.2 a ha).1) frc.1
  have hd1 : (shR room rows f t m).1 = (rows.set t (rows[t] ++ rows[f].drop cut)).set f (rows[f].take cut) := by rw [hdone]
  have hd2 : (shR room rows f t m).2 = 0 := by rw [hdone]
  rw [← hd1] at y7
  have hq := yk.2.1
  obtain ⟨p1, p2⟩ := old H1.nxt (.inl rfl) hq
  obtain ⟨p3, p4⟩ := old H.nxt (.inr (by omega)) (by omega)
  obtain ⟨p5, p6⟩ := old (H.nxt + 1) (.inr (by omega)) (by omega)
  obtain ⟨p7, p8⟩ := old (blk w) (.inr (by omega)) (by omega)
  have g7r := (old (H.nxt + 2) (.inr (by omega)) (by omega)).1.trans g9r
  have k07 : Keep H H7 := ⟨by omega, fun a ha => by rw [(old a (.inr (by omega)) (by omega)).1, k0k.get a ha]⟩
  obtain ⟨v4, w4, g4, hfin⟩ := fin H7 _ 0 k07 y7 (by rw [hs]) (by rw [hs, hd2])
  have g4x := g4
  rw [p1] at g4x
  simp (maxSteps := 4000000) (disch := omega) only [ZD, Zio, Zip, pre_, beq_self_eq_true, Nat.reduceBEq, Zq, evO, vbox, wr, Zeq, if_true, if_false, Nat.reduceEqDiff, Nat.reduceAdd, Nat.reduceLeDiff, Nat.reduceSub, and_self, and_true, true_and, reduceIte, reduceCtorEq, eq_self, implies_true, forall_const, false_implies, imp_self, decide_true, decide_false, fix_nil, fix_cons, g2, g5a, g5m, g5r, t2, t3, t4, t6, t7, t8, g9a, g9m, g9r, g7r, g4, g4x, GD_app, ixk, e7, slc_trL (r := rSlc rInt) (sz := 1) rfl h2 hf, p1, p2, p3, p4, p5, p6, p7, p8, gq]
  exact hfin
end Go.Proofs.Ytiajbefljkikiaa.AX
