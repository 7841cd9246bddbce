/- Sidings: one shunt, of the program and of the reference. No condition beyond each law's own; of the program: the functions' forms. -/
import Derived.Test.YtiajbefljkikiaaYd4
import Derived.Test.YtiajbefljkikiaaXH
namespace Go.Proofs.Ytiajbefljkikiaa.AX
open Go
set_option maxRecDepth 10000
set_option maxHeartbeats 4000000
set_option linter.unusedSimpArgs false
set_option linter.unusedVariables false
def s1R (room : List Int) (rows : List (List Int)) (f t m : Int) : List (List Int) × Int := if yardOk room rows = true then shR room rows f t m else (rows, 1)
theorem yardOk_len {room : List Int} {rows : List (List Int)} (h : yardOk room rows = true) : rows.length ≤ 6 ∧ 1 ≤ rows.length ∧ room.length = rows.length := by
  simp only [yardOk, Bool.and_eq_true, decide_eq_true_eq] at h
  have := inR_iff.1 h.1.1
  exact ⟨by omega, by omega, h.1.2⟩
theorem yrd_own {B H : Heap} {q : Nat} {room : List Int} {rows : List (List Int)} (h : Yrd B H q room rows) : ∃ v w F, H.get q = some (.own [v, w]) ∧ rSidings.own H [v, w] (room, rows) F ∧ Fresh B H F := by
  obtain ⟨hq, hq2, v, w, F0, F1, gq, o0, o1, nd0, nd1, f0, f1⟩ := h
  refine ⟨v, w, F0 ++ F1, gq, sidings_own' o0 o1, List.nodup_append.2 ⟨nd0, nd1, fun a ha b hb e => (f1 b hb).2.2 (e ▸ ha)⟩, fun a ha => ?_⟩
  rcases List.mem_append.1 ha with h | h
  · exact ⟨(f0 a h).1, (rSlc rInt).ownlt o0 a h⟩
  · exact ⟨(f1 a h).1, (rSlc (rSlc rInt)).ownlt o1 a h⟩
theorem own_yrd {B H H' : Heap} {v w : Value} {room : List Int} {rows : List (List Int)} {F : List Nat} (h : rSidings.own H [v, w] (room, rows) F) (f : Fresh B H F) (hb : B.nxt ≤ H.nxt) (hk : Keep H H') (hn : H.nxt < H'.nxt) (hg : H'.get H.nxt = some (.own [v, w])) : Yrd B H' H.nxt room rows := by
  have lt := rSidings.ownlt h
  obtain ⟨v0, w0, F0, F1, e, o0, o1, rfl⟩ := sidings_own h
  simp only [List.cons.injEq, and_true] at e
  obtain ⟨rfl, rfl⟩ := e
  obtain ⟨nd0, nd1, dj⟩ := List.nodup_append.1 f.1
  have lt1 := fun a (ha : a ∈ F0) => lt a (List.mem_append_left _ ha)
  have lt2 := fun a (ha : a ∈ F1) => lt a (List.mem_append_right _ ha)
  exact ⟨hb, hn, v, w, F0, F1, hg, (rSlc rInt).ownKeep o0 hk, (rSlc (rSlc rInt)).ownKeep o1 hk, nd0, nd1, fun a ha => ⟨(f.2 a (List.mem_append_left _ ha)).1, by have := lt1 a ha; omega⟩, fun a ha => ⟨(f.2 a (List.mem_append_right _ ha)).1, by have := lt2 a ha; omega, fun h' => dj a h' a ha rfl⟩⟩
theorem r_impl_ShuntOne {H : Heap} {v w : Value} {room : List Int} {rows : List (List Int)} {f t m : Int} (h1 : (rSlc rInt).rd H [v] room) (h2 : (rSlc (rSlc rInt)).rd H [w] rows) (ht : rSidings.tot (room, rows) ≤ 1048576) :
    Run Try.prog 30 [.agg #[v, w], .agg #[.int .i64 f, .int .i64 t, .int .i64 m]] H fun r H' => Keep H H' ∧ ∃ cs F, r = .tuple #[rSidings.val cs, .int .i64 (s1R room rows f t m).2] ∧ rSidings.own H' cs (room, (s1R room rows f t m).1) F ∧ Fresh H H' F := by
  obtain ⟨m1, m2, m3⟩ := yard_tot ht
  obtain ⟨va, vb⟩ := slc_cell h1
  obtain ⟨wa, wb⟩ := slc_cell h2
  refine Run.intro c30 rfl ?_
  simp (maxSteps := 4000000) (disch := omega) only [Zq, evO, vbox, wr, Zeq, if_true, if_false, Nat.reduceEqDiff, Nat.reduceAdd, Nat.reduceLeDiff, Nat.reduceSub, and_self, and_true, true_and, reduceIte, reduceCtorEq, eq_self, implies_true, forall_const, false_implies, imp_self, decide_true, decide_false, x30, va, vb, wa, wb]
  generalize hG0 : ((H.push [v, w]).push [.int .i64 f, .int .i64 t, .int .i64 m]).push [.slice none 0 0, .slice none 0 0] = H0
  have k0 : Keep H H0 := by rw [← hG0]; repeat' (first | exact Keep.refl _ | assumption | refine Keep.push' ?_ | refine Keep.set' ?_ ?_ | refine Keep.moved' ?_ ?_ | omega)
  have g0 : H0.get H.nxt = some (.own [v, w]) := by rw [← hG0]; simp (maxSteps := 4000000) (disch := omega) only [Zq, evO, vbox, wr, Zeq, if_true, if_false, Nat.reduceEqDiff, Nat.reduceAdd, Nat.reduceLeDiff, Nat.reduceSub, and_self, and_true, true_and, reduceIte, reduceCtorEq, eq_self, implies_true, forall_const, false_implies, imp_self, decide_true, decide_false]
  have g0m : H0.get (H.nxt + 1) = some (.own [.int .i64 f, .int .i64 t, .int .i64 m]) := by rw [← hG0]; simp (maxSteps := 4000000) (disch := omega) only [Zq, evO, vbox, wr, Zeq, if_true, if_false, Nat.reduceEqDiff, Nat.reduceAdd, Nat.reduceLeDiff, Nat.reduceSub, and_self, and_true, true_and, reduceIte, reduceCtorEq, eq_self, implies_true, forall_const, false_implies, imp_self, decide_true, decide_false]
  have g0r : H0.get (H.nxt + 2) = some (.own [.slice none 0 0, .slice none 0 0]) := by rw [← hG0]; simp (maxSteps := 4000000) (disch := omega) only [Zq, evO, vbox, wr, Zeq, if_true, if_false, Nat.reduceEqDiff, Nat.reduceAdd, Nat.reduceLeDiff, Nat.reduceSub, and_self, and_true, true_and, reduceIte, reduceCtorEq, eq_self, implies_true, forall_const, false_implies, imp_self, decide_true, decide_false]
  have n0 : H0.nxt = H.nxt + 3 := by rw [← hG0]; simp only [Zbg]
  refine GO_call ((r_impl_cloneSidings ((rSlc rInt).rdk h1 k0) ((rSlc (rSlc rInt)).rdk h2 k0) ht).mono ?_)
  rintro _ H1 ⟨k1, cs, F, rfl, o1, fr⟩
  obtain ⟨v1, w1, rfl, _⟩ := sidings_rd (rSidings.ownrd o1)
  have n1 := k1.nxt
  have g1 := (k1.get H.nxt (by omega)).trans g0
  have g1m := (k1.get (H.nxt + 1) (by omega)).trans g0m
  have g1r := (k1.get (H.nxt + 2) (by omega)).trans g0r
  simp only [sidings_val]
  simp (maxSteps := 4000000) (disch := omega) only [Zq, evO, vbox, wr, Zeq, if_true, if_false, Nat.reduceEqDiff, Nat.reduceAdd, Nat.reduceLeDiff, Nat.reduceSub, and_self, and_true, true_and, reduceIte, reduceCtorEq, eq_self, implies_true, forall_const, false_implies, imp_self, decide_true, decide_false, fix_nil, fix_cons, g0, g0m, g0r, g1, g1m, g1r]
  generalize hG2 : (H1.push [.slice none 0 0, .slice none 0 0]).set H1.nxt [v1, w1] = H2
  have k2 : Keep H1 H2 := by rw [← hG2]; repeat' (first | exact Keep.refl _ | assumption | refine Keep.push' ?_ | refine Keep.set' ?_ ?_ | refine Keep.moved' ?_ ?_ | omega)
  have g2 : H2.get H1.nxt = some (.own [v1, w1]) := by rw [← hG2, Zbi, if_pos rfl]
  have n2 : H2.nxt = H1.nxt + 1 := by rw [← hG2, Zbh, Zbg]
  have y2 := own_yrd o1 fr n1 k2 (by omega) g2
  have g2a := (k2.get H.nxt (by omega)).trans g1
  have g2m := (k2.get (H.nxt + 1) (by omega)).trans g1m
  have g2r := (k2.get (H.nxt + 2) (by omega)).trans g1r
  have k02 : Keep H H2 := k0.trans (k1.trans k2)
  refine GO_call ((r_impl_SidingsOk ((rSlc rInt).rdk h1 k02) ((rSlc (rSlc rInt)).rdk h2 k02) ht).mono ?_)
  rintro _ H3 ⟨k3, rfl⟩
  have n3 := k3.nxt
  have y3 := y2.keep k3
  have g3m := (k3.get (H.nxt + 1) (by omega)).trans g2m
  have g3r := (k3.get (H.nxt + 2) (by omega)).trans g2r
  have k03 := k02.trans k3
  by_cases hy : yardOk room rows = true
  · obtain ⟨l1, _, l3⟩ := yardOk_len hy
    simp (maxSteps := 4000000) (disch := omega) only [Zq, evO, vbox, wr, Zeq, if_true, if_false, Nat.reduceEqDiff, Nat.reduceAdd, Nat.reduceLeDiff, Nat.reduceSub, and_self, and_true, true_and, reduceIte, reduceCtorEq, eq_self, implies_true, forall_const, false_implies, imp_self, decide_true, decide_false, fix_nil, fix_cons, g0, g0m, g0r, g1, g1m, g1r, g2, g2a, g2m, g2r, g3m, g3r, hy]
    refine GO_call ((r_impl_shunt (B := H0) (f := f) (t := t) (m := m) (by omega) y3 (by omega) l3 (fun i hi => by have := m3 i hi; omega)).mono ?_)
    rintro _ H4 ⟨k4, y4, rfl⟩
    have n4 := k4.nxt
    obtain ⟨v4, w4, F4, g4, o4, fr4⟩ := yrd_own y4
    have g4r := (k4.get (H.nxt + 2) (by omega)).trans g3r
    obtain ⟨_, _, e, q1, q2⟩ := sidings_rd (rSidings.ownrd o4)
    simp only [List.cons.injEq, and_true] at e
    obtain ⟨rfl, rfl⟩ := e
    have k04 : Keep H H4 := by
      refine ⟨by omega, fun a ha => ?_⟩
      rw [k4.get a (by omega), k03.get a ha]
    simp (maxSteps := 4000000) (disch := omega) only [Zq, evO, vbox, wr, Zeq, if_true, if_false, Nat.reduceEqDiff, Nat.reduceAdd, Nat.reduceLeDiff, Nat.reduceSub, and_self, and_true, true_and, reduceIte, reduceCtorEq, eq_self, implies_true, forall_const, false_implies, imp_self, decide_true, decide_false, fix_nil, fix_cons, g0, g0m, g0r, g1, g1m, g1r, g2, g2a, g2m, g2r, g3m, g3r, g4, g4r]
    have hs : s1R room rows f t m = shR room rows f t m := by rw [s1R, if_pos hy]
    rw [hs]
    refine ⟨k04.set' (by omega), [v4, w4], F4, rfl, rSidings.ownk o4 (by rw [Zbh]; omega) (fun a ha => ?_), fr4.1, fun a ha => ?_⟩
    · have := fr4.2 a ha
      rw [Zbi, if_neg (by omega)]
    · have := fr4.2 a ha
      rw [Zbh]
      omega
  · have hy' : yardOk room rows = false := by simpa using hy
    obtain ⟨v4, w4, F4, g4, o4, fr4⟩ := yrd_own y3
    simp (maxSteps := 4000000) (disch := omega) only [Zq, evO, vbox, wr, Zeq, if_true, if_false, Nat.reduceEqDiff, Nat.reduceAdd, Nat.reduceLeDiff, Nat.reduceSub, and_self, and_true, true_and, reduceIte, reduceCtorEq, eq_self, implies_true, forall_const, false_implies, imp_self, decide_true, decide_false, fix_nil, fix_cons, g0, g0m, g0r, g1, g1m, g1r, g2, g2a, g2m, g2r, g3m, g3r, g4, hy']
    have hs : s1R room rows f t m = (rows, 1) := by rw [s1R, if_neg hy]
    rw [hs]
    refine ⟨k03.set' (by omega), [v4, w4], F4, rfl, rSidings.ownk o4 (by rw [Zbh]; omega) (fun a ha => ?_), fr4.1, fun a ha => ?_⟩
    · have := fr4.2 a ha
      rw [Zbi, if_neg (by omega)]
    · have := fr4.2 a ha
      rw [Zbh]
      omega
theorem yrd_focus {B H : Heap} {q i : Nat} {room : List Int} {rows : List (List Int)} (hy : Yrd B H q room rows) (hi : i < rows.length) : ∃ v w, H.get q = some (.own [v, w]) ∧ (rSlc rInt).rd H [v] room ∧ (rSlc (rSlc rInt)).rd H [w] rows ∧ B.nxt ≤ blk w ∧ blk w < H.nxt ∧ blk w ≠ q ∧ ∃ rv G, blk w ∉ G ∧ vld1 H (adr w i 1 0) = some (rv, H) ∧ (rSlc rInt).own H [rv] rows[i] G ∧ G.Nodup ∧ (∀ a ∈ G, B.nxt ≤ a ∧ a ≠ q) ∧
    ∀ H' x y G', Chg G H H' → (rSlc rInt).own H' [x] y G' → (∀ a ∈ G', a ∈ G ∨ H.nxt ≤ a) → G'.Nodup → ∃ H'', vst H' 1 x (adr w i 1 0) = some (undef, H'') ∧ Yrd B H'' q room (rows.set i y) ∧ H''.nxt = H'.nxt ∧ ∀ a, (a = q ∨ a < B.nxt) → a < H.nxt → H''.get a = H.get a ∧ H'.get a = H.get a := by
  obtain ⟨hq, hq2, v, w, F0, F1, gq, o0, o1, nd0, nd1, f0, f1⟩ := hy
  obtain ⟨row, G, og, ndg, hG, _, _, ef, hbF, hbG, put⟩ := own_focus (r := rSlc rInt) (sz := 1) rfl (by omega) o1 nd1 hi
  obtain ⟨rv, rfl⟩ := slc_one ((rSlc rInt).ownrd og)
  have lt1 := (rSlc (rSlc rInt)).ownlt o1
  have lt0 := (rSlc rInt).ownlt o0
  refine ⟨v, w, gq, (rSlc rInt).ownrd o0, (rSlc (rSlc rInt)).ownrd o1, (f1 _ hbF).1, lt1 _ hbF, (f1 _ hbF).2.1, rv, G, hbG, ef 0 rv rfl, og, ndg, fun a ha => ⟨(f1 a (hG a ha)).1, (f1 a (hG a ha)).2.1⟩, ?_⟩
  intro H' x y G' c ho hG' hnd
  obtain ⟨xa, xb⟩ := slc_cell ((rSlc rInt).ownrd ho)
  obtain ⟨H'', F', e4, o4, n4, g4, f4, _, nd4, hold⟩ := put H' x [x] y G' c ho (fun a ha => by
    rcases hG' a ha with h | h
    · exact .inr h
    · exact .inl fun h' => by have := lt1 a h'; omega) hnd xb xa
  have n3 := c.nxt
  have old : ∀ a, (a = q ∨ a < B.nxt) → a < H.nxt → H''.get a = H.get a ∧ H'.get a = H.get a := fun a ha hlt => by
    have h1 : a ∉ G := fun h => by have := f1 a (hG a h); omega
    have h2 : a ≠ blk w := fun h => by have := f1 _ hbF; omega
    exact ⟨(g4 a h2).trans (c.get a hlt h1), c.get a hlt h1⟩
  refine ⟨H'', e4, ⟨hq, by omega, v, w, F0, F', (old q (.inl rfl) hq2).1.trans gq, (rSlc rInt).ownk o0 (by omega) (fun a ha => ?_), o4, nd0, nd4, f0, fun a ha => ?_⟩, n4, old⟩
  · rw [g4 a (fun h => (f1 _ hbF).2.2 (h ▸ ha)), c.get a (lt0 a ha) (fun h => (f1 _ (hG a h)).2.2 ha)]
  · have hF : a ∈ F1 ∨ H.nxt ≤ a := by
      rcases f4 a ha with ⟨h, _⟩ | h
      · exact .inl h
      · rcases hG' a h with h | h
        · exact .inl (hG a h)
        · exact .inr h
    rcases hF with h | h
    · exact f1 a h
    · exact ⟨by omega, by omega, fun h' => by have := lt0 a h'; omega⟩
end Go.Proofs.Ytiajbefljkikiaa.AX
