/- Sidings: shunts one behind the other, of the program. No condition beyond each law's own; of the program: the functions' forms. -/
import Derived.Test.YtiajbefljkikiaaYd5
import Derived.Test.YtiajbefljkikiaaYdP
namespace Go.Proofs.Ytiajbefljkikiaa.AX
open Go
set_option maxRecDepth 10000
set_option maxHeartbeats 4000000
set_option linter.unusedSimpArgs false
set_option linter.unusedVariables false
abbrev Sh := Int × Int × Int
def plStep (room : List Int) (s : List (List Int) × List Int) (m : Sh) : List (List Int) × List Int := ((shR room s.1 m.1 m.2.1 m.2.2).1, s.2 ++ [(shR room s.1 m.1 m.2.1 m.2.2).2])
def plGo (room : List Int) (rows : List (List Int)) (ms : List Sh) : List (List Int) × List Int := ms.foldl (plStep room) (rows, [])
def plR (room : List Int) (rows : List (List Int)) (ms : List Sh) : List (List Int) × List Int := if yardOk room rows = true ∧ ms.length ≤ 200 then plGo room rows ms else (rows, [])
theorem plGo_succ {room : List Int} {rows : List (List Int)} {ms : List Sh} {i : Nat} (h : i < ms.length) : plGo room rows (ms.take (i + 1)) = plStep room (plGo room rows (ms.take i)) ms[i] := by
  unfold plGo
  rw [take_snoc' ms h, List.foldl_append]
  rfl
theorem plGo_ok {room : List Int} {rows : List (List Int)} {ms : List Sh} (h : yardOk room rows = true) : ∀ i, i ≤ ms.length → yardOk room (plGo room rows (ms.take i)).1 = true ∧ (plGo room rows (ms.take i)).1.length = rows.length ∧ (plGo room rows (ms.take i)).2.length = i
  | 0, _ => ⟨h, rfl, rfl⟩
  | i + 1, hi => by
    obtain ⟨h1, h2, h3⟩ := plGo_ok (ms := ms) h i (by omega)
    rw [plGo_succ (i := i) (by omega)]
    exact ⟨shR_ok h1, by rw [plStep, shR_len]; exact h2, by rw [plStep, List.length_append, h3]; rfl⟩
/-- An element of a slice of shunts. -/
theorem shunt_el {H : Heap} {v : Value} {ms : List Sh} {i : Nat} (h : (rSlc rShunt).rd H [v] ms) (hi : i < ms.length) : vldN H 3 (adr v i 3 0) = some (.agg #[.int .i64 ms[i].1, .int .i64 ms[i].2.1, .int .i64 ms[i].2.2], H) := by
  obtain ⟨row, h1, _, h2, _⟩ := slc_el (sz := 3) rfl (by omega) h hi
  have e : row = shuntC ms[i] := h1
  rw [h2, e]
  rfl
theorem r_impl_PlayShunts {H : Heap} {v w u : Value} {room : List Int} {rows : List (List Int)} {ms : List Sh} (h1 : (rSlc rInt).rd H [v] room) (h2 : (rSlc (rSlc rInt)).rd H [w] rows) (h3 : (rSlc rShunt).rd H [u] ms) (ht : rSidings.tot (room, rows) ≤ 1048576) (hl : ms.length ≤ 1048576) :
    Run Try.prog 35 [.agg #[v, w], u] H fun r H' => Keep H H' ∧ ∃ cs F cs1 F1, r = .tuple #[rSidings.val cs, (rSlc rInt).val cs1] ∧ rSidings.own H' cs (room, (plR room rows ms).1) F ∧ Fresh H H' F ∧ (rSlc rInt).own H' cs1 (plR room rows ms).2 F1 ∧ Fresh H H' F1 ∧ ∀ i ∈ F, i ∉ F1 := by
  obtain ⟨m1, m2, m3⟩ := yard_tot ht
  obtain ⟨va, vb⟩ := slc_cell h1
  obtain ⟨wa, wb⟩ := slc_cell h2
  have lu : ∀ H : Heap, vlen H u = some (.int .i64 ms.length, H) := fun _ => slc_len h3
  refine Run.intro c35 rfl ?_
  simp (maxSteps := 4000000) (disch := omega) only [Zq, evO, vbox, wr, Zeq, if_true, if_false, Nat.reduceEqDiff, Nat.reduceAdd, Nat.reduceLeDiff, Nat.reduceSub, and_self, and_true, true_and, reduceIte, reduceCtorEq, eq_self, implies_true, forall_const, false_implies, imp_self, decide_true, decide_false, x35, va, vb, wa, wb]
  generalize hG0 : (H.push [v, w]).push [.slice none 0 0, .slice none 0 0] = H0
  have k0 : Keep H H0 := by rw [← hG0]; repeat' (first | exact Keep.refl _ | assumption | refine Keep.push' ?_ | refine Keep.set' ?_ ?_ | refine Keep.moved' ?_ ?_ | omega)
  have g0 : H0.get H.nxt = some (.own [v, w]) := by rw [← hG0]; simp (maxSteps := 4000000) (disch := omega) only [Zq, evO, vbox, wr, Zeq, if_true, if_false, Nat.reduceEqDiff, Nat.reduceAdd, Nat.reduceLeDiff, Nat.reduceSub, and_self, and_true, true_and, reduceIte, reduceCtorEq, eq_self, implies_true, forall_const, false_implies, imp_self, decide_true, decide_false]
  have g0r : H0.get (H.nxt + 1) = some (.own [.slice none 0 0, .slice none 0 0]) := by rw [← hG0]; simp (maxSteps := 4000000) (disch := omega) only [Zq, evO, vbox, wr, Zeq, if_true, if_false, Nat.reduceEqDiff, Nat.reduceAdd, Nat.reduceLeDiff, Nat.reduceSub, and_self, and_true, true_and, reduceIte, reduceCtorEq, eq_self, implies_true, forall_const, false_implies, imp_self, decide_true, decide_false]
  have n0 : H0.nxt = H.nxt + 2 := by rw [← hG0]; simp only [Zbg]
  refine GO_call ((r_impl_cloneSidings ((rSlc rInt).rdk h1 k0) ((rSlc (rSlc rInt)).rdk h2 k0) ht).mono ?_)
  rintro _ H1 ⟨k1, cs, F, rfl, o1, fr⟩
  obtain ⟨v1, w1, rfl, _⟩ := sidings_rd (rSidings.ownrd o1)
  have n1 := k1.nxt
  have g1 := (k1.get H.nxt (by omega)).trans g0
  have g1r := (k1.get (H.nxt + 1) (by omega)).trans g0r
  simp only [sidings_val]
  simp (maxSteps := 4000000) (disch := omega) only [Zq, evO, vbox, wr, Zeq, if_true, if_false, Nat.reduceEqDiff, Nat.reduceAdd, Nat.reduceLeDiff, Nat.reduceSub, and_self, and_true, true_and, reduceIte, reduceCtorEq, eq_self, implies_true, forall_const, false_implies, imp_self, decide_true, decide_false, fix_nil, fix_cons, g0, g0r, g1, g1r]
  generalize hG2 : (H1.push [.slice none 0 0, .slice none 0 0]).set H1.nxt [v1, w1] = H2
  have k2 : Keep H1 H2 := by rw [← hG2]; repeat' (first | exact Keep.refl _ | assumption | refine Keep.push' ?_ | refine Keep.set' ?_ ?_ | refine Keep.moved' ?_ ?_ | omega)
  have g2 : H2.get H1.nxt = some (.own [v1, w1]) := by rw [← hG2, Zbi, if_pos rfl]
  have n2 : H2.nxt = H1.nxt + 1 := by rw [← hG2, Zbh, Zbg]
  have y2 := own_yrd o1 fr n1 k2 (by omega) g2
  have g2a := (k2.get H.nxt (by omega)).trans g1
  have g2r := (k2.get (H.nxt + 1) (by omega)).trans g1r
  have k02 : Keep H H2 := k0.trans (k1.trans k2)
  clear hG0 hG2 fr o1 g0 g0r g1 g1r
  refine GO_call ((r_impl_SidingsOk ((rSlc rInt).rdk h1 k02) ((rSlc (rSlc rInt)).rdk h2 k02) ht).mono ?_)
  rintro _ H3 ⟨k3, rfl⟩
  have n3 := k3.nxt
  have y3 := y2.keep k3
  have g3r := (k3.get (H.nxt + 1) (by omega)).trans g2r
  have k03 := k02.trans k3
  have bad : plR room rows ms = (rows, []) → ∃ v4 w4, H3.get H1.nxt = some (.own [v4, w4]) ∧ (Keep H (H3.set (H.nxt + 1) [v4, w4]) ∧ ∃ cs F cs1 F1, Value.tuple #[.agg #[v4, w4], .slice none 0 0] = .tuple #[rSidings.val cs, (rSlc rInt).val cs1] ∧ rSidings.own (H3.set (H.nxt + 1) [v4, w4]) cs (room, (plR room rows ms).1) F ∧ Fresh H (H3.set (H.nxt + 1) [v4, w4]) F ∧ (rSlc rInt).own (H3.set (H.nxt + 1) [v4, w4]) cs1 (plR room rows ms).2 F1 ∧ Fresh H (H3.set (H.nxt + 1) [v4, w4]) F1 ∧ ∀ i ∈ F, i ∉ F1) := fun hb => by
    obtain ⟨v4, w4, F4, g4, o4, fr4⟩ := yrd_own y3
    refine ⟨v4, w4, g4, k03.set' (by omega), [v4, w4], F4, [.slice none 0 0], [], rfl, ?_, ⟨fr4.1, fun a ha => ?_⟩, ?_, ⟨by simp, by simp⟩, by simp⟩
    · rw [hb]
      refine rSidings.ownk o4 (by rw [Zbh]; omega) (fun a ha => ?_)
      have := fr4.2 a ha
      rw [Zbi, if_neg (by omega)]
    · have := fr4.2 a ha
      rw [Zbh]
      omega
    · rw [hb]
      exact .inl ⟨rfl, rfl, rfl⟩
  by_cases hy : yardOk room rows = true
  rotate_left
  · have hy' : yardOk room rows = false := by simpa using hy
    obtain ⟨v4, w4, g4, hfin⟩ := bad (by rw [plR, if_neg (fun h => hy h.1)])
    simp (maxSteps := 4000000) (disch := omega) only [Zq, evO, vbox, wr, Zeq, if_true, if_false, Nat.reduceEqDiff, Nat.reduceAdd, Nat.reduceLeDiff, Nat.reduceSub, and_self, and_true, true_and, reduceIte, reduceCtorEq, eq_self, implies_true, forall_const, false_implies, imp_self, decide_true, decide_false, fix_nil, fix_cons, g2, g2a, g2r, g3r, g4, hy']
    exact hfin
  by_cases h200 : ms.length ≤ 200
  rotate_left
  · obtain ⟨v4, w4, g4, hfin⟩ := bad (by rw [plR, if_neg (fun h => h200 h.2)])
    simp (maxSteps := 4000000) (disch := omega) only [Zq, evO, vbox, wr, Zeq, if_true, if_false, Nat.reduceEqDiff, Nat.reduceAdd, Nat.reduceLeDiff, Nat.reduceSub, and_self, and_true, true_and, reduceIte, reduceCtorEq, eq_self, implies_true, forall_const, false_implies, imp_self, decide_true, decide_false, fix_nil, fix_cons, g2, g2a, g2r, g3r, g4, hy, lu]
    exact hfin
  clear bad
  have hpl : plR room rows ms = plGo room rows ms := by rw [plR, if_pos ⟨hy, h200⟩]
  obtain ⟨l1, _, l3⟩ := yardOk_len hy
  simp (maxSteps := 4000000) (disch := omega) only [Zq, evO, vbox, wr, Zeq, if_true, if_false, Nat.reduceEqDiff, Nat.reduceAdd, Nat.reduceLeDiff, Nat.reduceSub, and_self, and_true, true_and, reduceIte, reduceCtorEq, eq_self, implies_true, forall_const, false_implies, imp_self, decide_true, decide_false, fix_nil, fix_cons, g2, g2a, g2r, g3r, hy, lu]
  generalize hG4 : H3.push (List.replicate ms.length [Value.int .i64 0]).flatten = H4
  have k4 : Keep H3 H4 := by rw [← hG4]; exact Keep.push _ _
  have n4 : H4.nxt = H3.nxt + 1 := by rw [← hG4, Zbg]
  obtain ⟨cv, hcv⟩ : ∃ cv, cv = Value.slice (some ⟨H3.nxt, 0, none⟩) ms.length 1 := ⟨_, rfl⟩
  have oc4 : NewI H3 H4 cv (List.replicate ms.length 0) := ⟨H3.nxt, Nat.le_refl _, by omega, by rw [hcv, List.length_replicate], by rw [← hG4, push_get', if_pos rfl, fcZ]; congr 2; induction ms.length with | zero => rfl | succ n ih => simp [List.replicate_succ, ih]⟩
  rw [← hcv]
  have y4 := y3.keep k4
  have g4r := (k4.get (H.nxt + 1) (by omega)).trans g3r
  have k04 := k03.trans k4
  have y4P : YrdP (fun a => H0.nxt ≤ a ∧ a ≠ H3.nxt) H4 H1.nxt room rows := by
    obtain ⟨hq, hq2, v, w, F0, F1, gq, o0, o1, nd0, nd1, f0, f1⟩ := y3
    have e0 := (rSlc rInt).ownlt o0
    have e1 := (rSlc (rSlc rInt)).ownlt o1
    exact ⟨⟨hq, by omega⟩, by omega, v, w, F0, F1, (k4.get _ hq2).trans gq, (rSlc rInt).ownKeep o0 k4, (rSlc (rSlc rInt)).ownKeep o1 k4, nd0, nd1, fun a ha => ⟨⟨(f0 a ha).1, by have := e0 a ha; omega⟩, (f0 a ha).2⟩, fun a ha => ⟨⟨(f1 a ha).1, by have := e1 a ha; omega⟩, (f1 a ha).2⟩⟩
  clear y4 y3 y2 hG4 k4 k3 k2 k1
  refine G_forF [4, 6, 7, 24, 25] (ms.length) (fun i T H5 => T 26 = .int .i64 (i : Int) ∧ (H4.nxt ≤ H5.nxt ∧ ∀ a, a < H0.nxt → H5.get a = H4.get a) ∧ YrdP (fun a => H0.nxt ≤ a ∧ a ≠ H3.nxt) H5 H1.nxt room (plGo room rows (ms.take i)).1 ∧ blk cv = H3.nxt ∧ NewI H3 H5 cv ((plGo room rows (ms.take i)).2 ++ List.replicate (ms.length - i) 0)) 0 (Nat.zero_le _) ?_ ?_
  · simp (maxSteps := 4000000) (disch := omega) only [Zq, evO, vbox, wr, Zeq, if_true, if_false, Nat.reduceEqDiff, Nat.reduceAdd, Nat.reduceLeDiff, Nat.reduceSub, and_self, and_true, true_and, reduceIte, reduceCtorEq, eq_self, implies_true, forall_const, false_implies, imp_self, decide_true, decide_false, fix_nil, fix_cons, g2, g2a, g2r, g3r, g4r]
    exact ⟨y4P, by rw [hcv]; rfl, by simpa [plGo] using oc4⟩
  rintro i T H5 hi hT ⟨t26, ⟨n5, kp5⟩, y5, hbc, oc5⟩
  simp only [fix_nil, fix_cons, Zq, evO, vbox, wr, Zeq, if_true, if_false, Nat.reduceEqDiff, Nat.reduceAdd, Nat.reduceLeDiff, Nat.reduceSub, and_self, and_true, true_and, reduceIte, reduceCtorEq, eq_self, implies_true, forall_const, false_implies, imp_self, decide_true, decide_false] at hT
  obtain ⟨t4, t6, t7, t24, t25⟩ := hT
  have k05 : Keep H H5 := ⟨by omega, fun a ha => by rw [kp5 a (by omega), k04.get a ha]⟩
  have g5r := (kp5 (H.nxt + 1) (by omega)).trans g4r
  obtain ⟨okI, lenI, lenC⟩ := plGo_ok (ms := ms) hy i hi
  by_cases hin : i < ms.length
  · have eu := shunt_el ((rSlc rShunt).rdk h3 k05) hin
    simp (maxSteps := 4000000) (disch := omega) only [Zq, evO, vbox, wr, Zeq, if_true, if_false, Nat.reduceEqDiff, Nat.reduceAdd, Nat.reduceLeDiff, Nat.reduceSub, and_self, and_true, true_and, reduceIte, reduceCtorEq, eq_self, implies_true, forall_const, false_implies, imp_self, decide_true, decide_false, fix_nil, fix_cons, g2, g2a, g2r, g3r, g4r, t4, t6, t7, t24, t25, t26, g5r, slc_idx (r := rShunt) (sz := 3) rfl h3 hin, eu]
    generalize hG6 : (H5.push [.int .i64 0, .int .i64 0, .int .i64 0]).set H5.nxt [.int .i64 ms[i].1, .int .i64 ms[i].2.1, .int .i64 ms[i].2.2] = H6
    have k6 : Keep H5 H6 := by rw [← hG6]; repeat' (first | exact Keep.refl _ | assumption | refine Keep.push' ?_ | refine Keep.set' ?_ ?_ | refine Keep.moved' ?_ ?_ | omega)
    have g6 : H6.get H5.nxt = some (.own [.int .i64 ms[i].1, .int .i64 ms[i].2.1, .int .i64 ms[i].2.2]) := by rw [← hG6, Zbi, if_pos rfl]
    have n6 : H6.nxt = H5.nxt + 1 := by rw [← hG6, Zbh, Zbg]
    have y6 := y5.keep k6
    refine GO_call_eq (by simp (maxSteps := 4000000) (disch := omega) only [Zq, evO, vbox, wr, Zeq, if_true, if_false, Nat.reduceEqDiff, Nat.reduceAdd, Nat.reduceLeDiff, Nat.reduceSub, and_self, and_true, true_and, reduceIte, reduceCtorEq, eq_self, implies_true, forall_const, false_implies, imp_self, decide_true, decide_false, fix_nil, fix_cons, g2, g2a, g2r, g3r, g4r, t4, t6, t7, t24, t25, t26, g5r, g6]) ((r_impl_shuntP (f := ms[i].1) (t := ms[i].2.1) (m := ms[i].2.2) (fun a ha => ⟨by omega, by omega⟩) y6 (by omega) (by omega) (fun j hj => by have := yard_row okI hj; omega)).mono ?_)
    rintro _ H7 ⟨k7, y7, rfl⟩
    have n7 := k7.nxt
    have oc7 : NewI H3 H7 cv ((plGo room rows (ms.take i)).2 ++ List.replicate (ms.length - i) 0) := by
      obtain ⟨p, p1, p2, p3, p4⟩ := oc5
      have hp : p = H3.nxt := by rw [p3] at hbc; exact hbc
      refine ⟨p, p1, by omega, p3, ?_⟩
      rw [k7.get p (by omega) (fun hh => hh.2 hp), k6.get p p2, p4]
    have hll : i < ((plGo room rows (ms.take i)).2 ++ List.replicate (ms.length - i) (0 : Int)).length := by rw [List.length_append, List.length_replicate]; omega
    obtain ⟨H8, e8, o8, k8, n8, g8⟩ := NewF.st (x := .int .i64 (shR room (plGo room rows (ms.take i)).1 ms[i].1 ms[i].2.1 ms[i].2.2).2) (y := (shR room (plGo room rows (ms.take i)).1 ms[i].1 ms[i].2.1 ms[i].2.2).2) (fZ_len .i64) oc7 rfl rfl hll
    have hset : ((plGo room rows (ms.take i)).2 ++ List.replicate (ms.length - i) (0 : Int)).set i (shR room (plGo room rows (ms.take i)).1 ms[i].1 ms[i].2.1 ms[i].2.2).2 = (plGo room rows (ms.take (i + 1))).2 ++ List.replicate (ms.length - (i + 1)) 0 := by
      rw [plGo_succ hin, plStep]
      have e : ms.length - i = (ms.length - (i + 1)) + 1 := by omega
      rw [e, List.replicate_succ, List.set_append_right _ _ (by omega), lenC, Nat.sub_self, List.set_cons_zero, List.append_assoc]
      rfl
    rw [hset] at o8
    have ixc : ∀ H0 : Heap, vidx H0 1 cv (.int .i64 (i : Int)) = some (adr cv i 1 0, H0) := fun H0 => by
      have hs := oc7.sl (fZ_len .i64)
      exact hs.idx hll
    have only : ∀ a, a ≠ H3.nxt → H8.get a = H7.get a := fun a ha => by
      obtain ⟨p, p1, p2, p3, p4⟩ := oc7
      have hp : p = H3.nxt := by rw [p3] at hbc; exact hbc
      have hh := e8
      rw [p3] at hh
      simp only [adr, Zcq, p4] at hh
      rw [show 0 + i * 1 + 0 = i * 1 by omega, stO_elem (fZ_len .i64) rfl (y := (shR room (plGo room rows (ms.take i)).1 ms[i].1 ms[i].2.1 ms[i].2.2).2) rfl hll] at hh
      simp only [Option.some.injEq, Prod.mk.injEq, true_and] at hh
      rw [← hh, Zbi, if_neg (by omega)]
    have y8 : YrdP (fun a => H0.nxt ≤ a ∧ a ≠ H3.nxt) H8 H1.nxt room (plGo room rows (ms.take (i + 1))).1 := by
      rw [plGo_succ hin, plStep]
      obtain ⟨hq, hq2, v, w, F0, F1, gq, o0, o1, nd0, nd1, f0, f1⟩ := y7
      exact ⟨hq, by omega, v, w, F0, F1, (only _ hq.2).trans gq, (rSlc rInt).ownk o0 (by omega) (fun a ha => only a (f0 a ha).1.2), (rSlc (rSlc rInt)).ownk o1 (by omega) (fun a ha => only a (f1 a ha).1.2), nd0, nd1, f0, f1⟩
    simp (maxSteps := 4000000) (disch := omega) only [Zq, evO, vbox, wr, Zeq, if_true, if_false, Nat.reduceEqDiff, Nat.reduceAdd, Nat.reduceLeDiff, Nat.reduceSub, and_self, and_true, true_and, reduceIte, reduceCtorEq, eq_self, implies_true, forall_const, false_implies, imp_self, decide_true, decide_false, fix_nil, fix_cons, g2, g2a, g2r, g3r, g4r, t4, t6, t7, t24, t25, t26, g5r, g6, g8, ixc, e8]
    refine ⟨hin, ⟨by omega, fun a ha => ?_⟩, y8, hbc, o8⟩
    rw [only a (by omega), k7.get a (by omega) (fun hh => by have : H0.nxt ≤ a := hh.1; omega), k6.get a (by omega), kp5 a ha]
  obtain rfl : i = ms.length := by omega
  rw [List.take_length] at y5 oc5 lenC okI
  rw [Nat.sub_self, List.replicate_zero, List.append_nil] at oc5
  have lc : ∀ H : Heap, vlen H cv = some (.int .i64 ms.length, H) := fun H => by
    have := (oc5.sl (fZ_len .i64)).len_ (H1 := H)
    rwa [lenC] at this
  obtain ⟨hq, hq2, v4, w4, F0, F1, g5, o0, o1, nd0, nd1, f0, f1⟩ := y5
  obtain ⟨Fc, occ, hFc⟩ : ∃ Fc, (rSlc rInt).own H5 [cv] (plGo room rows ms).2 Fc ∧ Fc = [H3.nxt] := by
    obtain ⟨p, p1, p2, p3, p4⟩ := oc5
    have hp : p = H3.nxt := by rw [p3] at hbc; exact hbc
    rw [fcZ] at p4
    refine ⟨[p], ?_, by rw [hp]⟩
    rw [p3]
    exact leaf_own0 p2 p4
  subst hFc
  have lt0 := (rSlc rInt).ownlt o0
  have lt1 := (rSlc (rSlc rInt)).ownlt o1
  have hnt : noTup cv = true := by rw [hcv]; rfl
  simp (maxSteps := 4000000) (disch := omega) only [Zq, evO, vbox, wr, Zeq, if_true, if_false, Nat.reduceEqDiff, Nat.reduceAdd, Nat.reduceLeDiff, Nat.reduceSub, and_self, and_true, true_and, reduceIte, reduceCtorEq, eq_self, implies_true, forall_const, false_implies, imp_self, decide_true, decide_false, fix_nil, fix_cons, g2, g2a, g2r, g3r, g4r, t4, t6, t7, t24, t25, t26, g5r, g5, hnt]
  rw [hpl]
  refine ⟨k05.set' (by omega), [v4, w4], F0 ++ F1, [cv], [H3.nxt], rfl, ?_, ⟨List.nodup_append.2 ⟨nd0, nd1, fun a ha b hb e => (f1 b hb).2.2 (e ▸ ha)⟩, fun a ha => ?_⟩, ?_, ⟨by simp, fun a ha => ?_⟩, fun a ha => ?_⟩
  · refine rSidings.ownk (sidings_own' o0 o1) (by rw [Zbh]; omega) (fun a ha => ?_)
    rw [Zbi, if_neg]
    rcases List.mem_append.1 ha with h | h
    · have : H0.nxt ≤ a := (f0 a h).1.1; omega
    · have : H0.nxt ≤ a := (f1 a h).1.1; omega
  · rw [Zbh]
    rcases List.mem_append.1 ha with h | h
    · have : H0.nxt ≤ a := (f0 a h).1.1
      have := lt0 a h; omega
    · have : H0.nxt ≤ a := (f1 a h).1.1
      have := lt1 a h; omega
  · refine (rSlc rInt).ownk occ (by rw [Zbh]; omega) (fun a ha => ?_)
    simp at ha
    subst ha
    rw [Zbi, if_neg (by omega)]
  · simp at ha
    subst ha
    rw [Zbh]
    omega
  · rcases List.mem_append.1 ha with h | h
    · simp; exact (f0 a h).1.2
    · simp; exact (f1 a h).1.2
end Go.Proofs.Ytiajbefljkikiaa.AX
