/- Sidings: copies of them. No condition beyond each law's own; of the program: the functions' forms. -/
import Derived.Test.YtiajbefljkikiaaYdok
namespace Go.Proofs.Ytiajbefljkikiaa.AX
open Go
set_option maxRecDepth 10000
set_option maxHeartbeats 4000000
set_option linter.unusedSimpArgs false
set_option linter.unusedVariables false
theorem set_fill {α : Type} (rows : List α) (z : α) {i : Nat} (hi : i < rows.length) : (rows.take i ++ List.replicate (rows.length - i) z).set i rows[i] = rows.take (i + 1) ++ List.replicate (rows.length - (i + 1)) z := by
  have e : rows.length - i = (rows.length - (i + 1)) + 1 := by omega
  have hl : (rows.take i).length = i := by rw [List.length_take]; omega
  rw [e, List.replicate_succ, List.set_append_right _ _ (by omega), hl, Nat.sub_self, List.set_cons_zero, take_snoc' rows hi, List.append_assoc]
  rfl
theorem len_fill {α : Type} (rows : List α) (z : α) {i : Nat} (hi : i ≤ rows.length) : (rows.take i ++ List.replicate (rows.length - i) z).length = rows.length := by
  rw [List.length_append, List.length_take, List.length_replicate]; omega
/-- A row of a slice of rows. -/
theorem row_el {H : Heap} {w : Value} {rows : List (List Int)} {i : Nat} (h : (rSlc (rSlc rInt)).rd H [w] rows) (hi : i < rows.length) : ∃ rv, vld1 H (adr w i 1 0) = some (rv, H) ∧ (rSlc rInt).rd H [rv] rows[i] ∧ Ints H rv rows[i] := by
  obtain ⟨row, h1, _, _, h2⟩ := slc_el (sz := 1) rfl (by omega) h hi
  obtain ⟨rv, rfl⟩ := slc_one h1
  exact ⟨rv, h2 0 _ rfl, h1, ints_of h1⟩
theorem yard_tot {room : List Int} {rows : List (List Int)} {m : Nat} (h : rSidings.tot (room, rows) ≤ m) : room.length ≤ m ∧ rows.length ≤ m ∧ ∀ i (hi : i < rows.length), rows[i].length ≤ m := by
  rw [sidings_tot, leaf_tot] at h
  have := tot_len (r := rSlc rInt) (xs := rows) (Nat.le_refl _)
  refine ⟨by omega, by omega, fun i hi => ?_⟩
  have h2 := tot_get (r := rSlc rInt) hi
  rw [leaf_tot] at h2
  omega
theorem r_impl_cloneSidings {H : Heap} {v w : Value} {room : List Int} {rows : List (List Int)} (h1 : (rSlc rInt).rd H [v] room) (h2 : (rSlc (rSlc rInt)).rd H [w] rows) (ht : rSidings.tot (room, rows) ≤ 1048576) :
    Run Try.prog 78 [.agg #[v, w]] H fun r H' => Keep H H' ∧ ∃ cs F, r = rSidings.val cs ∧ rSidings.own H' cs (room, rows) F ∧ Fresh H H' F := by
  obtain ⟨m1, m2, m3⟩ := yard_tot ht
  obtain ⟨va, vb⟩ := slc_cell h1
  obtain ⟨wa, wb⟩ := slc_cell h2
  refine Run.intro c78 rfl ?_
  simp (maxSteps := 4000000) (disch := omega) only [Zq, evO, vbox, wr, Zeq, if_true, if_false, Nat.reduceEqDiff, Nat.reduceAdd, Nat.reduceLeDiff, Nat.reduceSub, and_self, and_true, true_and, reduceIte, reduceCtorEq, eq_self, implies_true, forall_const, false_implies, imp_self, decide_true, decide_false, x78, va, vb, wa, wb]
  generalize hG0 : (H.push [v, w]).push [.slice none 0 0, .slice none 0 0] = H0
  have k0 : Keep H H0 := by rw [← hG0]; repeat' (first | exact Keep.refl _ | assumption | refine Keep.push' ?_ | refine Keep.set' ?_ ?_ | refine Keep.moved' ?_ ?_ | omega)
  have g0 : H0.get H.nxt = some (.own [v, w]) := by rw [← hG0]; simp (maxSteps := 4000000) (disch := omega) only [Zq, evO, vbox, wr, Zeq, if_true, if_false, Nat.reduceEqDiff, Nat.reduceAdd, Nat.reduceLeDiff, Nat.reduceSub, and_self, and_true, true_and, reduceIte, reduceCtorEq, eq_self, implies_true, forall_const, false_implies, imp_self, decide_true, decide_false]
  have g0r : H0.get (H.nxt + 1) = some (.own [.slice none 0 0, .slice none 0 0]) := by rw [← hG0]; simp (maxSteps := 4000000) (disch := omega) only [Zq, evO, vbox, wr, Zeq, if_true, if_false, Nat.reduceEqDiff, Nat.reduceAdd, Nat.reduceLeDiff, Nat.reduceSub, and_self, and_true, true_and, reduceIte, reduceCtorEq, eq_self, implies_true, forall_const, false_implies, imp_self, decide_true, decide_false]
  have n0 : H0.nxt = H.nxt + 2 := by rw [← hG0]; simp only [Zbg]
  have k0p : Keep H (H0.push []) := k0.push'
  obtain ⟨u, H1, F0, e1, o1, c1, f1, nd1⟩ := own_appN (bytes := 8) (own_new' (r := rInt) (H := H0) (sz := 1) rfl) (ints_of ((rSlc rInt).rdk h1 k0p)) (by simp only [List.length_nil]; omega)
  rw [List.nil_append] at o1
  have nd0 := nd1 (by simp)
  have n1 := c1.nxt
  rw [Zbg] at n1
  have g1 : H1.get H.nxt = some (.own [v, w]) := by rw [c1.get _ (by rw [Zbg]; omega) (by simp; omega), push_get', if_neg (by omega), g0]
  have g1r : H1.get (H.nxt + 1) = some (.own [.slice none 0 0, .slice none 0 0]) := by rw [c1.get _ (by rw [Zbg]; omega) (by simp; omega), push_get', if_neg (by omega), g0r]
  have k1 : Keep H H1 := c1.keep k0p (fun i hi => by simp at hi; omega)
  have f0 : ∀ a ∈ F0, H0.nxt ≤ a ∧ a < H1.nxt := fun a ha => by
    rcases f1 a ha with h | h
    · simp at h; omega
    · rw [Zbg] at h; omega
  obtain ⟨ua, ub⟩ := slc_cell ((rSlc rInt).ownrd o1)
  have l2 : ∀ H : Heap, vlen H w = some (.int .i64 rows.length, H) := fun _ => slc_len h2
  simp (maxSteps := 4000000) (disch := omega) only [ZD, Zio, Zip, pre_, beq_self_eq_true, Nat.reduceBEq, Zq, evO, vbox, wr, Zeq, if_true, if_false, Nat.reduceEqDiff, Nat.reduceAdd, Nat.reduceLeDiff, Nat.reduceSub, and_self, and_true, true_and, reduceIte, reduceCtorEq, eq_self, implies_true, forall_const, false_implies, imp_self, decide_true, decide_false, G_dreg, GD_app, g0, g1, e1, l2, ua, ub]
  generalize hG2 : ((H1.push (List.replicate rows.length [Value.slice none 0 0]).flatten).push [.slice none 0 0, .slice none 0 0]).set (H1.nxt + 1) [u, .slice (some ⟨H1.nxt, 0, none⟩) rows.length 1] = H2
  have k2 : Keep H1 H2 := by rw [← hG2]; repeat' (first | exact Keep.refl _ | assumption | refine Keep.push' ?_ | refine Keep.set' ?_ ?_ | refine Keep.moved' ?_ ?_ | omega)
  have g2 : H2.get H.nxt = some (.own [v, w]) := (k2.get _ (by omega)).trans g1
  have g2r : H2.get (H.nxt + 1) = some (.own [.slice none 0 0, .slice none 0 0]) := (k2.get _ (by omega)).trans g1r
  have g2b : H2.get (H1.nxt + 1) = some (.own [u, .slice (some ⟨H1.nxt, 0, none⟩) rows.length 1]) := by rw [← hG2, Zbi, if_pos rfl]
  have n2 : H2.nxt = H1.nxt + 2 := by rw [← hG2, Zbh]; simp only [Zbg]
  have o2 : (rSlc (rSlc rInt)).own H2 [.slice (some ⟨H1.nxt, 0, none⟩) rows.length 1] (List.replicate rows.length []) [H1.nxt] := by
    have := own_mks (r := rSlc rInt) (H := H1) (z := [.slice none 0 0]) (x0 := []) (.inl ⟨rfl, rfl, rfl⟩) rows.length
    refine (rSlc (rSlc rInt)).ownk this (by rw [← hG2, Zbh]; simp only [Zbg]; omega) (fun a ha => ?_)
    simp at ha
    subst ha
    rw [← hG2, Zbi, if_neg (by omega), push_get', if_neg (by rw [Zbg]; omega)]
  have k02 := k1.trans k2
  obtain ⟨wv, hwv⟩ : ∃ wv, wv = Value.slice (some ⟨H1.nxt, 0, none⟩) rows.length 1 := ⟨_, rfl⟩
  have hbl : blk wv = H1.nxt := by rw [hwv]; rfl
  rw [← hwv] at g2b o2
  have o12 := (rSlc rInt).ownKeep o1 k2
  first | with_reducible refine And.intro (by repeat' (first | apply And.intro | omega)) ?_ | skip
  refine G_forF [2, 3, 16, 17] (rows.length) (fun i T H3 => T 18 = .int .i64 (i : Int) ∧ Chg [H1.nxt] H2 H3 ∧ ∃ F1, (rSlc (rSlc rInt)).own H3 [wv] (rows.take i ++ List.replicate (rows.length - i) []) F1 ∧ F1.Nodup ∧ ∀ a ∈ F1, a = H1.nxt ∨ H2.nxt ≤ a ∧ a < H3.nxt) 0 (Nat.zero_le _) ?_ ?_
  · simp (maxSteps := 4000000) (disch := omega) only [Zq, evO, vbox, wr, Zeq, if_true, if_false, Nat.reduceEqDiff, Nat.reduceAdd, Nat.reduceLeDiff, Nat.reduceSub, and_self, and_true, true_and, reduceIte, reduceCtorEq, eq_self, implies_true, forall_const, false_implies, imp_self, decide_true, decide_false, fix_nil, fix_cons, g0, g0r, g1, g1r, g2, g2r, g2b]
    exact ⟨Chg.refl _ _, [H1.nxt], by simpa using o2, by simp, fun a ha => .inl (by simpa using ha)⟩
  rintro i T H3 hi hT ⟨t18, c3, F1, o3, nd3, f3⟩
  simp only [fix_nil, fix_cons, Zq, evO, vbox, wr, Zeq, if_true, if_false, Nat.reduceEqDiff, Nat.reduceAdd, Nat.reduceLeDiff, Nat.reduceSub, and_self, and_true, true_and, reduceIte, reduceCtorEq, eq_self, implies_true, forall_const, false_implies, imp_self, decide_true, decide_false] at hT
  obtain ⟨t2, t3, t16, t17⟩ := hT
  have n3 := c3.nxt
  have k03 : Keep H H3 := c3.keep k02 (fun i hi => by simp at hi; omega)
  have g3 : H3.get (H1.nxt + 1) = some (.own [u, wv]) := (c3.get _ (by omega) (by simp)).trans g2b
  have g3r : H3.get (H.nxt + 1) = some (.own [.slice none 0 0, .slice none 0 0]) := (c3.get _ (by omega) (by simp; omega)).trans g2r
  by_cases hin : i < rows.length
  · obtain ⟨rv, e2, rd2, ri⟩ := row_el ((rSlc (rSlc rInt)).rdk h2 k03) hin
    simp (maxSteps := 4000000) (disch := omega) only [Zq, evO, vbox, wr, Zeq, if_true, if_false, Nat.reduceEqDiff, Nat.reduceAdd, Nat.reduceLeDiff, Nat.reduceSub, and_self, and_true, true_and, reduceIte, reduceCtorEq, eq_self, implies_true, forall_const, false_implies, imp_self, decide_true, decide_false, fix_nil, fix_cons, g0, g0r, g1, g1r, g2, g2r, g2b, t2, t3, t16, t17, t18, g3, g3r, slc_idx (r := rSlc rInt) (sz := 1) rfl h2 hin, e2]
    have hlf := len_fill rows [] hi
    obtain ⟨row, G, oG, ndG, hG, hlr, _, _, hbF, hbG, put⟩ := own_focus (r := rSlc rInt) (sz := 1) rfl (by omega) o3 nd3 (i := i) (by omega)
    obtain ⟨x, H4, F4, e4, o4, c4, f4, nd4⟩ := own_appN (bytes := 8) (own_new' (r := rInt) (H := H3) (sz := 1) rfl) (ri.keep (Keep.push _ _)) (by simp only [List.length_nil]; have := m3 i hin; omega)
    rw [List.nil_append] at o4
    have n4 := c4.nxt
    rw [Zbg] at n4
    have c34 : Chg G H3 H4 := ⟨by omega, fun a ha _ => by rw [c4.get a (by rw [Zbg]; omega) (by simp; omega), push_get', if_neg (by omega)]⟩
    have f4' : ∀ a ∈ F4, H3.nxt ≤ a ∧ a < H4.nxt := fun a ha => by
      rcases f4 a ha with h | h
      · simp at h; omega
      · rw [Zbg] at h; omega
    obtain ⟨xa, xb⟩ := slc_cell ((rSlc rInt).ownrd o4)
    have lt3 := (rSlc (rSlc rInt)).ownlt o3
    obtain ⟨H5, F5, e5, o5, n5, g5, f5, _, nd5, _⟩ := put H4 x [x] rows[i] F4 c34 o4 (fun a ha => .inl fun h => by have := lt3 a h; have := f4' a ha; omega) (nd4 (by simp)) xb xa
    rw [set_fill rows [] hin] at o5
    have g4b : H4.get (H1.nxt + 1) = some (.own [u, wv]) := by rw [c4.get _ (by rw [Zbg]; omega) (by simp; omega), push_get', if_neg (by omega), g3]
    have g5b : H5.get (H1.nxt + 1) = some (.own [u, wv]) := by rw [g5 _ (by rw [hbl]; omega), g4b]
    have ix : ∀ H0 : Heap, vidx H0 1 wv (.int .i64 (i : Int)) = some (adr wv i 1 0, H0) := fun H0 => slc_idx (r := rSlc rInt) (sz := 1) rfl ((rSlc (rSlc rInt)).ownrd o3) (by omega)
    simp (maxSteps := 4000000) (disch := omega) only [ZD, Zio, Zip, pre_, beq_self_eq_true, Nat.reduceBEq, Zq, evO, vbox, wr, Zeq, if_true, if_false, Nat.reduceEqDiff, Nat.reduceAdd, Nat.reduceLeDiff, Nat.reduceSub, and_self, and_true, true_and, reduceIte, reduceCtorEq, eq_self, implies_true, forall_const, false_implies, imp_self, decide_true, decide_false, fix_nil, fix_cons, g0, g0r, g1, g1r, g2, g2r, g2b, t2, t3, t16, t17, t18, g3, g3r, g5, g4b, g5b, G_dreg, GD_app, e4, ix, e5, g4b, g5b]
    first | with_reducible refine And.intro (by repeat' (first | apply And.intro | omega)) ?_ | skip
    refine ⟨hin, ⟨by omega, fun a ha hne => ?_⟩, F5, o5, nd5, fun a ha => ?_⟩
    · rw [g5 a (by rw [hbl]; simpa using hne), c34.get a (by omega) (fun h => by rcases f3 a (hG a h) with h | h; exact hne (by simp [h]); omega), c3.get a ha hne]
    · rcases f5 a ha with ⟨h, _⟩ | h
      · rcases f3 a h with h | h
        · exact .inl h
        · exact .inr (by omega)
      · have := f4' a h
        exact .inr (by omega)
  · obtain rfl : i = rows.length := by omega
    rw [List.take_length, Nat.sub_self, List.replicate_zero, List.append_nil] at o3
    simp (maxSteps := 4000000) (disch := omega) only [Zq, evO, vbox, wr, Zeq, if_true, if_false, Nat.reduceEqDiff, Nat.reduceAdd, Nat.reduceLeDiff, Nat.reduceSub, and_self, and_true, true_and, reduceIte, reduceCtorEq, eq_self, implies_true, forall_const, false_implies, imp_self, decide_true, decide_false, fix_nil, fix_cons, g0, g0r, g1, g1r, g2, g2r, g2b, t2, t3, t16, t17, t18, g3, g3r]
    have o13 := (rSlc rInt).ownChg o12 c3 (fun a ha hm => by have := f0 a ha; simp at hm; omega)
    refine ⟨k03.set' (by omega), [u, wv], F0 ++ F1, rfl, ?_, List.nodup_append.2 ⟨nd0, nd3, fun a ha b hb e => ?_⟩, fun a ha => ?_⟩
    · refine rSidings.ownk (sidings_own' o13 o3) (by rw [Zbh]; omega) (fun a ha => ?_)
      rw [Zbi, if_neg]
      rcases List.mem_append.1 ha with h | h
      · have := f0 a h; omega
      · rcases f3 a h with h | h <;> omega
    · have := f0 a ha
      rcases f3 b hb with h | h <;> omega
    · rw [Zbh]
      rcases List.mem_append.1 ha with h | h
      · have := f0 a h; omega
      · rcases f3 a h with h | h <;> omega
end Go.Proofs.Ytiajbefljkikiaa.AX
