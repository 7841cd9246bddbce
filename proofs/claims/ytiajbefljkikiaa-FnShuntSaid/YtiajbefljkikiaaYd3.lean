/- Sidings: the reference's copies of them. No condition beyond each law's own; of the program: the functions' forms. -/
import Derived.Test.YtiajbefljkikiaaYd2
namespace Go.Proofs.Ytiajbefljkikiaa.AX
open Go
set_option maxRecDepth 10000
set_option maxHeartbeats 4000000
set_option linter.unusedSimpArgs false
set_option linter.unusedVariables false
theorem r_spec_l18Copy {H : Heap} {v w : Value} {room : List Int} {rows : List (List Int)} (h1 : (rSlc rInt).rd H [v] room) (h2 : (rSlc (rSlc rInt)).rd H [w] rows) (ht : rSidings.tot (room, rows) ≤ 1048576) :
    Run Try.prog 73 [.agg #[v, w]] H fun r H' => Keep H H' ∧ ∃ cs F, r = rSidings.val cs ∧ rSidings.own H' cs (room, rows) F ∧ Fresh H H' F := by
  obtain ⟨m1, m2, m3⟩ := yard_tot ht
  obtain ⟨va, vb⟩ := slc_cell h1
  obtain ⟨wa, wb⟩ := slc_cell h2
  have l2 : ∀ H : Heap, vlen H w = some (.int .i64 rows.length, H) := fun _ => slc_len h2
  refine Run.intro c73 rfl ?_
  simp (maxSteps := 4000000) (disch := omega) only [Zq, evO, vbox, wr, Zeq, if_true, if_false, Nat.reduceEqDiff, Nat.reduceAdd, Nat.reduceLeDiff, Nat.reduceSub, and_self, and_true, true_and, reduceIte, reduceCtorEq, eq_self, implies_true, forall_const, false_implies, imp_self, decide_true, decide_false, x73, va, vb, wa, wb]
  generalize hG0 : (H.push [v, w]).push [.slice none 0 0, .slice none 0 0] = H0
  have k0 : Keep H H0 := by rw [← hG0]; repeat' (first | exact Keep.refl _ | assumption | refine Keep.push' ?_ | refine Keep.set' ?_ ?_ | refine Keep.moved' ?_ ?_ | omega)
  have g0 : H0.get H.nxt = some (.own [v, w]) := by rw [← hG0]; simp (maxSteps := 4000000) (disch := omega) only [Zq, evO, vbox, wr, Zeq, if_true, if_false, Nat.reduceEqDiff, Nat.reduceAdd, Nat.reduceLeDiff, Nat.reduceSub, and_self, and_true, true_and, reduceIte, reduceCtorEq, eq_self, implies_true, forall_const, false_implies, imp_self, decide_true, decide_false]
  have g0r : H0.get (H.nxt + 1) = some (.own [.slice none 0 0, .slice none 0 0]) := by rw [← hG0]; simp (maxSteps := 4000000) (disch := omega) only [Zq, evO, vbox, wr, Zeq, if_true, if_false, Nat.reduceEqDiff, Nat.reduceAdd, Nat.reduceLeDiff, Nat.reduceSub, and_self, and_true, true_and, reduceIte, reduceCtorEq, eq_self, implies_true, forall_const, false_implies, imp_self, decide_true, decide_false]
  have n0 : H0.nxt = H.nxt + 2 := by rw [← hG0]; simp only [Zbg]
  refine GO_call ((r_spec_l01Copy (ints_of ((rSlc rInt).rdk h1 k0)) m1).mono ?_)
  rintro u H1 ⟨k1, o1⟩
  have n1 := k1.nxt
  have g1 := (k1.get H.nxt (by omega)).trans g0
  have g1r := (k1.get (H.nxt + 1) (by omega)).trans g0r
  obtain ⟨F0, o1, fr1⟩ := o1.ownI
  obtain ⟨ua, ub⟩ := slc_cell ((rSlc rInt).ownrd o1)
  simp (maxSteps := 4000000) (disch := omega) only [Zq, evO, vbox, wr, Zeq, if_true, if_false, Nat.reduceEqDiff, Nat.reduceAdd, Nat.reduceLeDiff, Nat.reduceSub, and_self, and_true, true_and, reduceIte, reduceCtorEq, eq_self, implies_true, forall_const, false_implies, imp_self, decide_true, decide_false, fix_nil, fix_cons, g0, g0r, g1, g1r, ua, ub]
  generalize hG2 : (H1.push [.slice none 0 0, .slice none 0 0]).set H1.nxt [u, .slice none 0 0] = H2
  have k2 : Keep H1 H2 := by rw [← hG2]; repeat' (first | exact Keep.refl _ | assumption | refine Keep.push' ?_ | refine Keep.set' ?_ ?_ | refine Keep.moved' ?_ ?_ | omega)
  have g2 : H2.get H1.nxt = some (.own [u, .slice none 0 0]) := by rw [← hG2, Zbi, if_pos rfl]
  have n2 : H2.nxt = H1.nxt + 1 := by rw [← hG2, Zbh, Zbg]
  have g2a := (k2.get H.nxt (by omega)).trans g1
  have g2r := (k2.get (H.nxt + 1) (by omega)).trans g1r
  have k02 := k0.trans (k1.trans k2)
  have o12 := (rSlc rInt).ownKeep o1 k2
  refine G_forF [1, 2, 3] (rows.length) (fun i T H3 => T 4 = .int .i64 (i : Int) ∧ Chg [H1.nxt] H2 H3 ∧ ∃ wv F1, H3.get H1.nxt = some (.own [u, wv]) ∧ (rSlc (rSlc rInt)).own H3 [wv] (rows.take i) F1 ∧ F1.Nodup ∧ ∀ a ∈ F1, H2.nxt ≤ a ∧ a < H3.nxt) 0 (Nat.zero_le _) ?_ ?_
  · simp (maxSteps := 4000000) (disch := omega) only [Zq, evO, vbox, wr, Zeq, if_true, if_false, Nat.reduceEqDiff, Nat.reduceAdd, Nat.reduceLeDiff, Nat.reduceSub, and_self, and_true, true_and, reduceIte, reduceCtorEq, eq_self, implies_true, forall_const, false_implies, imp_self, decide_true, decide_false, fix_nil, fix_cons, g0, g0r, g1, g1r, g2, g2a, g2r]
    exact ⟨Chg.refl _ _, _, [], rfl, .inl ⟨rfl, rfl, rfl⟩, by simp, fun a ha => by cases ha⟩
  rintro i T H3 hi hT ⟨t4, c3, wv, F1, g3, o3, nd3, f3⟩
  simp only [fix_nil, fix_cons, Zq, evO, vbox, wr, Zeq, if_true, if_false, Nat.reduceEqDiff, Nat.reduceAdd, Nat.reduceLeDiff, Nat.reduceSub, and_self, and_true, true_and, reduceIte, reduceCtorEq, eq_self, implies_true, forall_const, false_implies, imp_self, decide_true, decide_false] at hT
  obtain ⟨t1, t2, t3⟩ := hT
  have n3 := c3.nxt
  have k03 : Keep H H3 := c3.keep k02 (fun i hi => by simp at hi; omega)
  have g3a := (c3.get H.nxt (by omega) (by simp; omega)).trans g2a
  have g3r := (c3.get (H.nxt + 1) (by omega) (by simp; omega)).trans g2r
  by_cases hin : i < rows.length
  · obtain ⟨rv, e2, rd2, ri⟩ := row_el ((rSlc (rSlc rInt)).rdk h2 k03) hin
    simp (maxSteps := 4000000) (disch := omega) only [Zq, evO, vbox, wr, Zeq, if_true, if_false, Nat.reduceEqDiff, Nat.reduceAdd, Nat.reduceLeDiff, Nat.reduceSub, and_self, and_true, true_and, reduceIte, reduceCtorEq, eq_self, implies_true, forall_const, false_implies, imp_self, decide_true, decide_false, fix_nil, fix_cons, g0, g0r, g1, g1r, g2, g2a, g2r, t1, t2, t3, t4, g3, g3a, g3r, l2]
    simp (maxSteps := 4000000) (disch := omega) only [ZD, Zio, Zip, pre_, beq_self_eq_true, Nat.reduceBEq, Zq, evO, vbox, wr, Zeq, if_true, if_false, Nat.reduceEqDiff, Nat.reduceAdd, Nat.reduceLeDiff, Nat.reduceSub, and_self, and_true, true_and, reduceIte, reduceCtorEq, eq_self, implies_true, forall_const, false_implies, imp_self, decide_true, decide_false, fix_nil, fix_cons, g0, g0r, g1, g1r, g2, g2a, g2r, t1, t2, t3, t4, g3, g3a, g3r, G_dreg, slc_idx (r := rSlc rInt) (sz := 1) rfl h2 hin, e2]
    refine GD_call ((r_spec_l01Copy ri (m3 i hin)).mono ?_)
    rintro c H4 ⟨k4, oc⟩
    have n4 := k4.nxt
    obtain ⟨Fc, oc, frc⟩ := oc.ownI
    obtain ⟨ca, cb⟩ := slc_cell ((rSlc rInt).ownrd oc)
    have o4 := (rSlc (rSlc rInt)).ownKeep o3 k4
    have lt3 := (rSlc (rSlc rInt)).ownlt o3
    obtain ⟨x, H5, F5, e5, o5, c5, f5, nd5, _⟩ := own_app (bytes := 24) (r := rSlc rInt) (sz := 1) rfl (by omega) o4 oc nd3 frc.1 (fun a ha h => by have := lt3 a h; have := frc.2 a ha; omega) (by rw [List.length_take]; omega)
    rw [← take_snoc' rows hin] at o5
    have n5 := c5.nxt
    obtain ⟨xa, xb⟩ := slc_cell ((rSlc (rSlc rInt)).ownrd o5)
    have g4 := (k4.get H1.nxt (by omega)).trans g3
    have g5 := (c5.get H1.nxt (by omega) (fun h => by have := f3 _ h; omega)).trans g4
    have hbw := slc_blk h2 hin
    simp (maxSteps := 4000000) (disch := omega) only [ZD, Zio, Zip, pre_, beq_self_eq_true, Nat.reduceBEq, Zq, evO, vbox, wr, Zeq, if_true, if_false, Nat.reduceEqDiff, Nat.reduceAdd, Nat.reduceLeDiff, Nat.reduceSub, and_self, and_true, true_and, reduceIte, reduceCtorEq, eq_self, implies_true, forall_const, false_implies, imp_self, decide_true, decide_false, fix_nil, fix_cons, g0, g0r, g1, g1r, g2, g2a, g2r, t1, t2, t3, t4, g3, g3a, g3r, g4, g5, GD_app, e5, ca, cb, xa, xb, slc_trL (r := rSlc rInt) (sz := 1) rfl h2 hin]
    first | with_reducible refine And.intro (by repeat' (first | apply And.intro | omega | exact k4.get _ (by omega))) ?_ | skip
    refine ⟨hin, ⟨by rw [Zbh]; omega, fun a ha hne => ?_⟩, x, F5, rfl, (rSlc (rSlc rInt)).ownk o5 (by rw [Zbh]; omega) (fun a ha => ?_), nd5, fun a ha => ?_⟩
    · rw [Zbi, if_neg (by simpa using hne), c5.get a (by omega) (fun h => by have := f3 _ h; omega), k4.get a (by omega), c3.get a ha hne]
    · rw [Zbi, if_neg]
      rcases f5 a ha with h | h | h
      · have := f3 a h; omega
      · have := frc.2 a h; omega
      · omega
    · rcases f5 a ha with h | h | h
      · have := f3 a h; omega
      · have := frc.2 a h; omega
      · omega
  · obtain rfl : i = rows.length := by omega
    rw [List.take_length] at o3
    simp (maxSteps := 4000000) (disch := omega) only [Zq, evO, vbox, wr, Zeq, if_true, if_false, Nat.reduceEqDiff, Nat.reduceAdd, Nat.reduceLeDiff, Nat.reduceSub, and_self, and_true, true_and, reduceIte, reduceCtorEq, eq_self, implies_true, forall_const, false_implies, imp_self, decide_true, decide_false, fix_nil, fix_cons, g0, g0r, g1, g1r, g2, g2a, g2r, t1, t2, t3, t4, g3, g3a, g3r, l2]
    have o13 := (rSlc rInt).ownChg o12 c3 (fun a ha hm => by have := fr1.2 a ha; simp at hm; omega)
    refine ⟨k03.set' (by omega), [u, wv], F0 ++ F1, rfl, ?_, List.nodup_append.2 ⟨fr1.1, nd3, fun a ha b hb e => ?_⟩, fun a ha => ?_⟩
    · refine rSidings.ownk (sidings_own' o13 o3) (by rw [Zbh]; omega) (fun a ha => ?_)
      rw [Zbi, if_neg]
      rcases List.mem_append.1 ha with h | h
      · have := fr1.2 a h; omega
      · have := f3 a h; omega
    · have := fr1.2 a ha
      have := f3 b hb
      omega
    · rw [Zbh]
      rcases List.mem_append.1 ha with h | h
      · have := fr1.2 a h; omega
      · have := f3 a h; omega
end Go.Proofs.Ytiajbefljkikiaa.AX
