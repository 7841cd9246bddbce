/- Sidings: shunts one behind the other, of the reference. No condition beyond each law's own; of the program: the functions' forms. -/
import Derived.Test.YtiajbefljkikiaaYd6
import Derived.Test.YtiajbefljkikiaaYd7
namespace Go.Proofs.Ytiajbefljkikiaa.AX
open Go
set_option maxRecDepth 10000
set_option maxHeartbeats 4000000
set_option linter.unusedSimpArgs false
set_option linter.unusedVariables false
theorem sum_eq_flat (rows : List (List Int)) : (rSlc (rSlc rInt)).tot rows = rows.length + rows.flatten.length := by
  show rows.length + (rows.map (rSlc rInt).tot).sum = _
  rw [List.length_flatten]
  congr 2
  exact List.map_congr_left fun x _ => leaf_tot x
theorem shR_tot {room : List Int} {rows : List (List Int)} {f t m : Int} {n : Nat} (h : rSidings.tot (room, rows) ≤ n) : rSidings.tot (room, (shR room rows f t m).1) ≤ n := by
  rw [sidings_tot] at h ⊢
  rw [sum_eq_flat] at h ⊢
  rw [shR_len, (shR_perm room rows f t m).length_eq]
  exact h
theorem plGo_tot {room : List Int} {rows : List (List Int)} {ms : List Sh} {n : Nat} (h : rSidings.tot (room, rows) ≤ n) : ∀ i, i ≤ ms.length → rSidings.tot (room, (plGo room rows (ms.take i)).1) ≤ n
  | 0, _ => h
  | i + 1, hi => by
    rw [plGo_succ (i := i) (by omega)]
    exact shR_tot (plGo_tot h i (by omega))
theorem r_spec_PlayShunts {H : Heap} {v w u : Value} {room : List Int} {rows : List (List Int)} {ms : List Sh} (h1 : (rSlc rInt).rd H [v] room) (h2 : (rSlc (rSlc rInt)).rd H [w] rows) (h3 : (rSlc rShunt).rd H [u] ms) (ht : rSidings.tot (room, rows) ≤ 1048576) (hl : ms.length ≤ 1048576) :
    Run Try.prog 40 [.agg #[v, w], u] H fun r H' => Keep H H' ∧ ∃ cs F cs1 F1, r = .tuple #[rSidings.val cs, (rSlc rInt).val cs1] ∧ rSidings.own H' cs (room, (plR room rows ms).1) F ∧ Fresh H H' F ∧ (rSlc rInt).own H' cs1 (plR room rows ms).2 F1 ∧ Fresh H H' F1 ∧ ∀ i ∈ F, i ∉ F1 := by
  obtain ⟨m1, m2, m3⟩ := yard_tot ht
  obtain ⟨va, vb⟩ := slc_cell h1
  obtain ⟨wa, wb⟩ := slc_cell h2
  have lu : ∀ H : Heap, vlen H u = some (.int .i64 ms.length, H) := fun _ => slc_len h3
  refine Run.intro c40 rfl ?_
  simp (maxSteps := 4000000) (disch := omega) only [Zq, evO, vbox, wr, Zeq, if_true, if_false, Nat.reduceEqDiff, Nat.reduceAdd, Nat.reduceLeDiff, Nat.reduceSub, and_self, and_true, true_and, reduceIte, reduceCtorEq, eq_self, implies_true, forall_const, false_implies, imp_self, decide_true, decide_false, x40, va, vb, wa, wb]
  generalize hG0 : (H.push [v, w]).push [.slice none 0 0, .slice none 0 0] = H0
  have k0 : Keep H H0 := by rw [← hG0]; repeat' (first | exact Keep.refl _ | assumption | refine Keep.push' ?_ | refine Keep.set' ?_ ?_ | refine Keep.moved' ?_ ?_ | omega)
  have g0 : H0.get H.nxt = some (.own [v, w]) := by rw [← hG0]; simp (maxSteps := 4000000) (disch := omega) only [Zq, evO, vbox, wr, Zeq, if_true, if_false, Nat.reduceEqDiff, Nat.reduceAdd, Nat.reduceLeDiff, Nat.reduceSub, and_self, and_true, true_and, reduceIte, reduceCtorEq, eq_self, implies_true, forall_const, false_implies, imp_self, decide_true, decide_false]
  have g0r : H0.get (H.nxt + 1) = some (.own [.slice none 0 0, .slice none 0 0]) := by rw [← hG0]; simp (maxSteps := 4000000) (disch := omega) only [Zq, evO, vbox, wr, Zeq, if_true, if_false, Nat.reduceEqDiff, Nat.reduceAdd, Nat.reduceLeDiff, Nat.reduceSub, and_self, and_true, true_and, reduceIte, reduceCtorEq, eq_self, implies_true, forall_const, false_implies, imp_self, decide_true, decide_false]
  have n0 : H0.nxt = H.nxt + 2 := by rw [← hG0]; simp only [Zbg]
  refine GO_call ((r_spec_SidingsOk ((rSlc rInt).rdk h1 k0) ((rSlc (rSlc rInt)).rdk h2 k0) ht).mono ?_)
  rintro _ H3 ⟨k3, rfl⟩
  have n3 := k3.nxt
  have g3 := (k3.get H.nxt (by omega)).trans g0
  have g3r := (k3.get (H.nxt + 1) (by omega)).trans g0r
  have k03 := k0.trans k3
  have cop := fun (hb : plR room rows ms = (rows, [])) => (r_spec_l18Copy ((rSlc rInt).rdk h1 k03) ((rSlc (rSlc rInt)).rdk h2 k03) ht)
  have bad : plR room rows ms = (rows, []) → ∀ H1 v1 w1 F, Keep H3 H1 → rSidings.own H1 [v1, w1] (room, rows) F → Fresh H3 H1 F → (Keep H (H1.set (H.nxt + 1) [v1, w1]) ∧ ∃ cs F cs1 F1, Value.tuple #[.agg #[v1, w1], .slice none 0 0] = .tuple #[rSidings.val cs, (rSlc rInt).val cs1] ∧ rSidings.own (H1.set (H.nxt + 1) [v1, w1]) cs (room, (plR room rows ms).1) F ∧ Fresh H (H1.set (H.nxt + 1) [v1, w1]) F ∧ (rSlc rInt).own (H1.set (H.nxt + 1) [v1, w1]) cs1 (plR room rows ms).2 F1 ∧ Fresh H (H1.set (H.nxt + 1) [v1, w1]) F1 ∧ ∀ i ∈ F, i ∉ F1) := fun hb H1 v1 w1 F k1 o1 fr1 => by
    refine ⟨(k03.trans k1).set' (by omega), [v1, w1], F, [.slice none 0 0], [], rfl, ?_, ⟨fr1.1, fun a ha => ?_⟩, ?_, ⟨by simp, by simp⟩, by simp⟩
    · rw [hb]
      refine rSidings.ownk o1 (by rw [Zbh]; omega) (fun a ha => ?_)
      have := fr1.2 a ha
      rw [Zbi, if_neg (by omega)]
    · have := fr1.2 a ha
      rw [Zbh]
      omega
    · rw [hb]
      exact .inl ⟨rfl, rfl, rfl⟩
  by_cases hy : yardOk room rows = true
  rotate_left
  · have hy' : yardOk room rows = false := by simpa using hy
    have hb : plR room rows ms = (rows, []) := by rw [plR, if_neg (fun h => hy h.1)]
    simp (maxSteps := 4000000) (disch := omega) only [Zq, evO, vbox, wr, Zeq, if_true, if_false, Nat.reduceEqDiff, Nat.reduceAdd, Nat.reduceLeDiff, Nat.reduceSub, and_self, and_true, true_and, reduceIte, reduceCtorEq, eq_self, implies_true, forall_const, false_implies, imp_self, decide_true, decide_false, fix_nil, fix_cons, g0, g0r, g3, g3r, hy']
    refine GO_call ((r_spec_l18Copy ((rSlc rInt).rdk h1 k03) ((rSlc (rSlc rInt)).rdk h2 k03) ht).mono ?_)
    rintro _ H1 ⟨k1, cs, F, rfl, o1, fr⟩
    obtain ⟨v1, w1, rfl, _⟩ := sidings_rd (rSidings.ownrd o1)
    have g1r := (k1.get (H.nxt + 1) (by omega)).trans g3r
    simp only [sidings_val]
    simp (maxSteps := 4000000) (disch := omega) only [Zq, evO, vbox, wr, Zeq, if_true, if_false, Nat.reduceEqDiff, Nat.reduceAdd, Nat.reduceLeDiff, Nat.reduceSub, and_self, and_true, true_and, reduceIte, reduceCtorEq, eq_self, implies_true, forall_const, false_implies, imp_self, decide_true, decide_false, fix_nil, fix_cons, g0, g0r, g3, g3r, g1r]
    exact bad hb H1 v1 w1 F k1 o1 fr
  by_cases h200 : ms.length ≤ 200
  rotate_left
  · have hb : plR room rows ms = (rows, []) := by rw [plR, if_neg (fun h => h200 h.2)]
    simp (maxSteps := 4000000) (disch := omega) only [Zq, evO, vbox, wr, Zeq, if_true, if_false, Nat.reduceEqDiff, Nat.reduceAdd, Nat.reduceLeDiff, Nat.reduceSub, and_self, and_true, true_and, reduceIte, reduceCtorEq, eq_self, implies_true, forall_const, false_implies, imp_self, decide_true, decide_false, fix_nil, fix_cons, g0, g0r, g3, g3r, hy, lu]
    refine GO_call ((r_spec_l18Copy ((rSlc rInt).rdk h1 k03) ((rSlc (rSlc rInt)).rdk h2 k03) ht).mono ?_)
    rintro _ H1 ⟨k1, cs, F, rfl, o1, fr⟩
    obtain ⟨v1, w1, rfl, _⟩ := sidings_rd (rSidings.ownrd o1)
    have g1r := (k1.get (H.nxt + 1) (by omega)).trans g3r
    simp only [sidings_val]
    simp (maxSteps := 4000000) (disch := omega) only [Zq, evO, vbox, wr, Zeq, if_true, if_false, Nat.reduceEqDiff, Nat.reduceAdd, Nat.reduceLeDiff, Nat.reduceSub, and_self, and_true, true_and, reduceIte, reduceCtorEq, eq_self, implies_true, forall_const, false_implies, imp_self, decide_true, decide_false, fix_nil, fix_cons, g0, g0r, g3, g3r, g1r]
    exact bad hb H1 v1 w1 F k1 o1 fr
  clear bad cop
  have hpl : plR room rows ms = plGo room rows ms := by rw [plR, if_pos ⟨hy, h200⟩]
  simp (maxSteps := 4000000) (disch := omega) only [Zq, evO, vbox, wr, Zeq, if_true, if_false, Nat.reduceEqDiff, Nat.reduceAdd, Nat.reduceLeDiff, Nat.reduceSub, and_self, and_true, true_and, reduceIte, reduceCtorEq, eq_self, implies_true, forall_const, false_implies, imp_self, decide_true, decide_false, fix_nil, fix_cons, g0, g0r, g3, g3r, hy, lu]
  refine GO_call ((r_spec_l18Copy ((rSlc rInt).rdk h1 k03) ((rSlc (rSlc rInt)).rdk h2 k03) ht).mono ?_)
  rintro _ H1 ⟨k1, cs, F, rfl, o1, fr⟩
  obtain ⟨v1, w1, rfl, _⟩ := sidings_rd (rSidings.ownrd o1)
  have n1 := k1.nxt
  have g1r := (k1.get (H.nxt + 1) (by omega)).trans g3r
  simp only [sidings_val]
  simp (maxSteps := 4000000) (disch := omega) only [Zq, evO, vbox, wr, Zeq, if_true, if_false, Nat.reduceEqDiff, Nat.reduceAdd, Nat.reduceLeDiff, Nat.reduceSub, and_self, and_true, true_and, reduceIte, reduceCtorEq, eq_self, implies_true, forall_const, false_implies, imp_self, decide_true, decide_false, fix_nil, fix_cons, g0, g0r, g3, g3r, g1r]
  generalize hG4 : ((H1.push [Value.slice none 0 0, Value.slice none 0 0]).set H1.nxt [v1, w1]).push [] = H4
  have k4 : Keep H1 H4 := by rw [← hG4]; repeat' (first | exact Keep.refl _ | assumption | refine Keep.push' ?_ | refine Keep.set' ?_ ?_ | refine Keep.moved' ?_ ?_ | omega)
  have n4 : H4.nxt = H1.nxt + 2 := by rw [← hG4]; simp only [Zbg, Zbh]
  have g4 : H4.get H1.nxt = some (.own [v1, w1]) := by rw [← hG4]; simp (maxSteps := 4000000) (disch := omega) only [Zq, evO, vbox, wr, Zeq, if_true, if_false, Nat.reduceEqDiff, Nat.reduceAdd, Nat.reduceLeDiff, Nat.reduceSub, and_self, and_true, true_and, reduceIte, reduceCtorEq, eq_self, implies_true, forall_const, false_implies, imp_self, decide_true, decide_false]
  have g4r := (k4.get (H.nxt + 1) (by omega)).trans g1r
  have gn4 : H4.get (H1.nxt + 1) = some (.own []) := by rw [← hG4]; simp (maxSteps := 4000000) (disch := omega) only [Zq, evO, vbox, wr, Zeq, if_true, if_false, Nat.reduceEqDiff, Nat.reduceAdd, Nat.reduceLeDiff, Nat.reduceSub, and_self, and_true, true_and, reduceIte, reduceCtorEq, eq_self, implies_true, forall_const, false_implies, imp_self, decide_true, decide_false]
  have oc4 : (rSlc rInt).own H4 [.slice (some ⟨H1.nxt + 1, 0, none⟩) 0 1] [] [H1.nxt + 1] := leaf_own0 (xs := []) (p := H1.nxt + 1) (by omega) gn4
  have k04 := k03.trans (k1.trans k4)
  have o4 := rSidings.ownKeep o1 k4
  have lt1 := rSidings.ownlt o1
  refine G_forF [1, 4, 6] (ms.length) (fun i T H5 => T 8 = .int .i64 (i : Int) ∧ (H4.nxt ≤ H5.nxt ∧ ∀ a, a < H3.nxt → H5.get a = H4.get a) ∧ ∃ v5 w5 F cv Fc, T 7 = cv ∧ H5.get H1.nxt = some (.own [v5, w5]) ∧ rSidings.own H5 [v5, w5] (room, (plGo room rows (ms.take i)).1) F ∧ F.Nodup ∧ (∀ a ∈ F, H3.nxt ≤ a ∧ a ≠ H1.nxt ∧ a ∉ Fc) ∧ (rSlc rInt).own H5 [cv] (plGo room rows (ms.take i)).2 Fc ∧ Fc.Nodup ∧ ∀ a ∈ Fc, H3.nxt ≤ a ∧ a ≠ H1.nxt) 0 (Nat.zero_le _) ?_ ?_
  · simp (maxSteps := 4000000) (disch := omega) only [Zq, evO, vbox, wr, Zeq, if_true, if_false, Nat.reduceEqDiff, Nat.reduceAdd, Nat.reduceLeDiff, Nat.reduceSub, and_self, and_true, true_and, reduceIte, reduceCtorEq, eq_self, implies_true, forall_const, false_implies, imp_self, decide_true, decide_false, fix_nil, fix_cons, g0, g0r, g3, g3r, g1r, g4, g4r]
    exact ⟨v1, w1, F, _, [H1.nxt + 1], rfl, rfl, o4, fr.1, fun a ha => ⟨(fr.2 a ha).1, by have := lt1 a ha; omega, by have := lt1 a ha; simp; omega⟩, oc4, by simp, fun a ha => by simp at ha; omega⟩
  rintro i T H5 hi hT ⟨t8, ⟨n5, kp5⟩, v5, w5, F5, cv, Fc, t7, g5, o5, nd5, f5, oc5, ndc, fc⟩
  simp only [fix_nil, fix_cons, Zq, evO, vbox, wr, Zeq, if_true, if_false, Nat.reduceEqDiff, Nat.reduceAdd, Nat.reduceLeDiff, Nat.reduceSub, and_self, and_true, true_and, reduceIte, reduceCtorEq, eq_self, implies_true, forall_const, false_implies, imp_self, decide_true, decide_false] at hT
  obtain ⟨t1, t4, t6⟩ := hT
  have k05 : Keep H H5 := ⟨by omega, fun a ha => by rw [kp5 a (by omega), k04.get a ha]⟩
  have g5r := (kp5 (H.nxt + 1) (by omega)).trans g4r
  obtain ⟨okI, lenI, lenC⟩ := plGo_ok (ms := ms) hy i hi
  have totI := plGo_tot (ms := ms) ht i hi
  obtain ⟨p0, p1, e, r0, r1⟩ := sidings_rd (rSidings.ownrd o5)
  simp only [List.cons.injEq, and_true] at e
  obtain ⟨rfl, rfl⟩ := e
  have lc : ∀ H : Heap, vlen H cv = some (.int .i64 (plGo room rows (ms.take i)).2.length, H) := fun _ => slc_len ((rSlc rInt).ownrd oc5)
  have lt5 := rSidings.ownlt o5
  have ltc := (rSlc rInt).ownlt oc5
  by_cases hin : i < ms.length
  · have eu := shunt_el ((rSlc rShunt).rdk h3 k05) hin
    have hbu := slc_blk h3 hin
    simp (maxSteps := 4000000) (disch := omega) only [Zq, evO, vbox, wr, Zeq, if_true, if_false, Nat.reduceEqDiff, Nat.reduceAdd, Nat.reduceLeDiff, Nat.reduceSub, and_self, and_true, true_and, reduceIte, reduceCtorEq, eq_self, implies_true, forall_const, false_implies, imp_self, decide_true, decide_false, fix_nil, fix_cons, g0, g0r, g3, g3r, g1r, g4, g4r, t1, t4, t6, t8, t7, g5, g5r, lu]
    simp (maxSteps := 4000000) (disch := omega) only [ZD, Zio, Zip, pre_, beq_self_eq_true, Nat.reduceBEq, Zq, evO, vbox, wr, Zeq, if_true, if_false, Nat.reduceEqDiff, Nat.reduceAdd, Nat.reduceLeDiff, Nat.reduceSub, and_self, and_true, true_and, reduceIte, reduceCtorEq, eq_self, implies_true, forall_const, false_implies, imp_self, decide_true, decide_false, fix_nil, fix_cons, g0, g0r, g3, g3r, g1r, g4, g4r, t1, t4, t6, t8, t7, g5, g5r, G_dreg, slc_idx (r := rShunt) (sz := 3) rfl h3 hin, eu]
    refine GD_call_eq (by simp (maxSteps := 4000000) (disch := omega) only [Zq, evO, vbox, wr, Zeq, if_true, if_false, Nat.reduceEqDiff, Nat.reduceAdd, Nat.reduceLeDiff, Nat.reduceSub, and_self, and_true, true_and, reduceIte, reduceCtorEq, eq_self, implies_true, forall_const, false_implies, imp_self, decide_true, decide_false, fix_nil, fix_cons, g0, g0r, g3, g3r, g1r, g4, g4r, t1, t4, t6, t8, t7, g5, g5r]) ((r_spec_ShuntOne (f := ms[i].1) (t := ms[i].2.1) (m := ms[i].2.2) r0 r1 totI).mono ?_)
    rintro _ H6 ⟨k6, cs6, F6, rfl, o6, fr6⟩
    obtain ⟨v6, w6, rfl, r60, r61⟩ := sidings_rd (rSidings.ownrd o6)
    have hs1 : s1R room (plGo room rows (ms.take i)).1 ms[i].1 ms[i].2.1 ms[i].2.2 = shR room (plGo room rows (ms.take i)).1 ms[i].1 ms[i].2.1 ms[i].2.2 := by rw [s1R, if_pos okI]
    rw [hs1] at o6 ⊢
    have hsu := plGo_succ (room := room) (rows := rows) hin
    rw [plStep] at hsu
    have n6 := k6.nxt
    have g6 := (k6.get H1.nxt (by omega)).trans g5
    have g6r := (k6.get (H.nxt + 1) (by omega)).trans g5r
    obtain ⟨v6a, v6b⟩ := slc_cell r60
    obtain ⟨w6a, w6b⟩ := slc_cell r61
    simp only [sidings_val]
    have ocx : (rSlc rInt).own (((H6.push [.slice none 0 0, .slice none 0 0]).set H6.nxt [v6, w6]).set H1.nxt [v6, w6]) [cv] (plGo room rows (ms.take i)).2 Fc := (rSlc rInt).ownk oc5 (by simp only [Zbh, Zbg]; omega) (fun a ha => by
      have := ltc a ha
      have := (fc a ha).2
      rw [Zbi, if_neg (by omega), Zbi, if_neg (by omega), push_get', if_neg (by omega), k6.get a (by omega)])
    obtain ⟨u8, H8, F8, e8, o8, c8, f8, nd8, _⟩ := own_app (r := rInt) (bytes := 8) (sz := 1) rfl (by omega) ocx (row := [.int .i64 (shR room (plGo room rows (ms.take i)).1 ms[i].1 ms[i].2.1 ms[i].2.2).2]) (y := (shR room (plGo room rows (ms.take i)).1 ms[i].1 ms[i].2.1 ms[i].2.2).2) (G := []) ⟨rfl, rfl⟩ ndc (by simp) (by simp) (by omega)
    simp only [Zbh, Zbg] at e8
    have n8 := c8.nxt
    simp only [Zbh, Zbg] at n8
    have h8 : ∀ a, a < H6.nxt + 1 → a ∉ Fc → H8.get a = (((H6.push [.slice none 0 0, .slice none 0 0]).set H6.nxt [v6, w6]).set H1.nxt [v6, w6]).get a := fun a ha hn => c8.get a (by simp only [Zbh, Zbg]; exact ha) hn
    have g8 : H8.get H1.nxt = some (.own [v6, w6]) := by rw [h8 _ (by omega) (fun h => (fc _ h).2 rfl), Zbi, if_pos rfl]
    have lt6 := rSidings.ownlt o6
    have o68 : rSidings.own H8 [v6, w6] (room, (plGo room rows (ms.take (i + 1))).1) F6 := by
      rw [hsu]
      refine rSidings.ownk o6 (by omega) (fun a ha => ?_)
      have h1 := fr6.2 a ha
      rw [h8 a (by omega) (fun h => by have := ltc a h; omega), Zbi, if_neg (by omega), Zbi, if_neg (by omega), push_get', if_neg (by omega)]
    have o8' : (rSlc rInt).own H8 [u8] (plGo room rows (ms.take (i + 1))).2 F8 := by rw [hsu]; exact o8
    simp (maxSteps := 4000000) (disch := omega) only [ZD, Zio, Zip, pre_, beq_self_eq_true, Nat.reduceBEq, Zq, evO, vbox, wr, Zeq, if_true, if_false, Nat.reduceEqDiff, Nat.reduceAdd, Nat.reduceLeDiff, Nat.reduceSub, and_self, and_true, true_and, reduceIte, reduceCtorEq, eq_self, implies_true, forall_const, false_implies, imp_self, decide_true, decide_false, fix_nil, fix_cons, g0, g0r, g3, g3r, g1r, g4, g4r, t1, t4, t6, t8, t7, g5, g5r, g6, g6r, g8, slc_trL (r := rShunt) (sz := 3) rfl h3 hin, v6a, v6b, w6a, w6b, Zff, e8]
    first | with_reducible refine And.intro (by repeat' (first | apply And.intro | omega | exact k6.get _ (by omega))) ?_ | skip
    refine ⟨hin, ⟨by omega, fun a ha => ?_⟩, v6, w6, F6, u8, F8, rfl, rfl, o68, fr6.1, fun a ha => ⟨by have := fr6.2 a ha; omega, by have := fr6.2 a ha; omega, fun h => ?_⟩, o8', nd8, fun a ha => ?_⟩
    · rw [h8 a (by omega) (fun h => by have := (fc a h).1; omega), Zbi, if_neg (by omega), Zbi, if_neg (by omega), push_get', if_neg (by omega), k6.get a (by omega), kp5 a ha]
    · have h1 := fr6.2 a ha
      rcases f8 a h with h | h | h
      · have := ltc a h; omega
      · simp at h
      · simp only [Zbh, Zbg] at h; have := lt6 a ha; omega
    · rcases f8 a ha with h | h | h
      · exact fc a h
      · simp at h
      · simp only [Zbh, Zbg] at h; omega
  obtain rfl : i = ms.length := by omega
  rw [List.take_length] at o5 oc5 totI
  obtain ⟨ca, cb⟩ := slc_cell ((rSlc rInt).ownrd oc5)
  simp (maxSteps := 4000000) (disch := omega) only [Zq, evO, vbox, wr, Zeq, if_true, if_false, Nat.reduceEqDiff, Nat.reduceAdd, Nat.reduceLeDiff, Nat.reduceSub, and_self, and_true, true_and, reduceIte, reduceCtorEq, eq_self, implies_true, forall_const, false_implies, imp_self, decide_true, decide_false, fix_nil, fix_cons, g0, g0r, g3, g3r, g1r, g4, g4r, t1, t4, t6, t8, t7, g5, g5r, lu, cb]
  rw [hpl]
  refine ⟨k05.set' (by omega), [v5, w5], F5, [cv], Fc, rfl, ?_, ⟨nd5, fun a ha => ?_⟩, ?_, ⟨ndc, fun a ha => ?_⟩, fun a ha => (f5 a ha).2.2⟩
  · refine rSidings.ownk o5 (by rw [Zbh]; omega) (fun a ha => ?_)
    have := (f5 a ha).1
    rw [Zbi, if_neg (by omega)]
  · rw [Zbh]
    have := (f5 a ha).1
    have := lt5 a ha
    omega
  · refine (rSlc rInt).ownk oc5 (by rw [Zbh]; omega) (fun a ha => ?_)
    have := (fc a ha).1
    rw [Zbi, if_neg (by omega)]
  · rw [Zbh]
    have := (fc a ha).1
    have := ltc a ha
    omega
end Go.Proofs.Ytiajbefljkikiaa.AX
