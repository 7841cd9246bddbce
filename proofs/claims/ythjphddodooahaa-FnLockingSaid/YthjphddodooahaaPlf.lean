/- Lockings: copies of them. No condition beyond each law's own; of the program: the functions' forms. -/
import Derived.Test.YthjphddodooahaaPld
namespace Go.Proofs.Ythjphddodooahaa.AX
open Go
set_option maxRecDepth 10000
set_option maxHeartbeats 4000000
set_option linter.unusedSimpArgs false
set_option linter.unusedVariables false
abbrev Lo := List Int × List Bool × List Bool
theorem bools_of {H : Heap} {v : Value} {xs : List Bool} (h : (rSlc rBool).rd H [v] xs) : Sl H v 1 xs.length (xs.map Value.bool) := by
  obtain ⟨w, e, h1⟩ := leaf_rd h
  obtain rfl : v = w := by simpa using e
  exact h1
section
variable {H : Heap} {vp vs vt : Value} {pos : List Int} {set taken : List Bool}
theorem lock_tot {m : Nat} (tl : rLocking.tot (pos, set, taken) ≤ m) : pos.length ≤ m ∧ set.length ≤ m ∧ taken.length ≤ m := by
  rw [locking_tot, leaf_tot, leaf_tot, leaf_tot] at tl
  omega
theorem fresh_app {H H1 H2 : Heap} {F0 F1 : List Nat} (h0 : Fresh H H1 F0) (h1 : Fresh H1 H2 F1) (n : H.nxt ≤ H1.nxt) (n1 : H1.nxt ≤ H2.nxt) : Fresh H H2 (F0 ++ F1) := by
  refine ⟨List.nodup_append.2 ⟨h0.1, h1.1, fun a ha b hb e => ?_⟩, fun a ha => ?_⟩
  · have := h0.2 a ha; have := h1.2 b hb; omega
  · rcases List.mem_append.1 ha with h | h
    · have := h0.2 a h; omega
    · have := h1.2 a h; omega
/-- A copy by append to a new slice. -/
theorem copy_app {α : Type} {f : α → Value} {m : Nat → α} {hf : ∀ a, oneCell (f a) = true} {bytes : Nat} {w : Value} {ys : List α} (hw : Sl H w 1 ys.length (ys.map f)) (hb : ys.length * bytes ≤ 140737488355328) :
    ∃ u H' F', vapp (H.push []) 1 bytes (.slice (some ⟨H.nxt, 0, none⟩) 0 1) w = some (u, H') ∧ (rSlc (leafRep f m hf)).own H' [u] ys F' ∧ Keep H H' ∧ Fresh H H' F' ∧ ∀ a, a < H.nxt → H'.get a = (H.push []).get a := by
  obtain ⟨u, H', F', e, o, c, ff, nd⟩ := own_appN (m := m) (hf := hf) (bytes := bytes) (own_new' (r := leafRep f m hf) (H := H) (sz := 1) rfl) (Sl.keep hw (Keep.push H [])) (by simpa using hb)
  have n := c.nxt
  rw [Zbg] at n
  refine ⟨u, H', F', e, by simpa using o, c.keep (Keep.push _ _) (fun i hi => by simp at hi; omega), ⟨nd (by simp), fun a ha => ?_⟩, fun a ha => c.get a (by rw [Zbg]; omega) (by simp; omega)⟩
  rcases ff a ha with h | h
  · simp at h; omega
  · rw [Zbg] at h; omega
theorem r_impl_cloneLocking (hp : (rSlc rInt).rd H [vp] pos) (hs : (rSlc rBool).rd H [vs] set) (ht : (rSlc rBool).rd H [vt] taken) (tl : rLocking.tot (pos, set, taken) ≤ 1048576) : Run Try.prog 78 [.agg #[vp, vs, vt]] H fun r H' => Keep H H' ∧ ∃ cs F, r = rLocking.val cs ∧ rLocking.own H' cs (pos, set, taken) F ∧ Fresh H H' F := by
  obtain ⟨m1, m2, m3⟩ := lock_tot tl
  refine Run.intro c78 rfl ?_
  simp (maxSteps := 4000000) (disch := omega) only [Zq, evO, vbox, wr, Zeq, if_true, if_false, Nat.reduceEqDiff, Nat.reduceAdd, Nat.reduceLeDiff, Nat.reduceSub, and_self, and_true, true_and, reduceIte, reduceCtorEq, eq_self, implies_true, forall_const, false_implies, imp_self, decide_true, decide_false, x78]
  generalize hG0 : (H.push [vp, vs, vt]).push [.slice none 0 0, .slice none 0 0, .slice none 0 0] = H0
  have k0 : Keep H H0 := by rw [← hG0]; repeat' (first | exact Keep.refl _ | assumption | refine Keep.push' ?_ | refine Keep.set' ?_ ?_ | refine Keep.moved' ?_ ?_ | omega)
  have g0 : H0.get H.nxt = some (.own [vp, vs, vt]) := by rw [← hG0]; simp (maxSteps := 4000000) (disch := omega) only [Zq, evO, vbox, wr, Zeq, if_true, if_false, Nat.reduceEqDiff, Nat.reduceAdd, Nat.reduceLeDiff, Nat.reduceSub, and_self, and_true, true_and, reduceIte, reduceCtorEq, eq_self, implies_true, forall_const, false_implies, imp_self, decide_true, decide_false]
  have g0r : H0.get (H.nxt + 1) = some (.own [.slice none 0 0, .slice none 0 0, .slice none 0 0]) := by rw [← hG0]; simp (maxSteps := 4000000) (disch := omega) only [Zq, evO, vbox, wr, Zeq, if_true, if_false, Nat.reduceEqDiff, Nat.reduceAdd, Nat.reduceLeDiff, Nat.reduceSub, and_self, and_true, true_and, reduceIte, reduceCtorEq, eq_self, implies_true, forall_const, false_implies, imp_self, decide_true, decide_false]
  have n0 : H0.nxt = H.nxt + 2 := by rw [← hG0]; simp only [Zbg]
  obtain ⟨u1, H1, F1, e1, o1, k1, f1, q1⟩ := copy_app (H := H0) (m := fun k => (k : Int)) (hf := oneCell_int) (bytes := 8) ((ints_of hp).keep k0) (by omega)
  have n1 := k1.nxt
  have g1 := (k1.get H.nxt (by omega)).trans g0
  have g1r := (k1.get (H.nxt + 1) (by omega)).trans g0r
  obtain ⟨u2, H2, F2, e2, o2, k2, f2, q2⟩ := copy_app (H := H1) (m := fun k => decide (k % 3 = 0)) (hf := oneCell_bool) (bytes := 1) ((bools_of hs).keep (k0.trans k1)) (by omega)
  have n2 := k2.nxt
  have g2 := (k2.get H.nxt (by omega)).trans g1
  have g2r := (k2.get (H.nxt + 1) (by omega)).trans g1r
  obtain ⟨u3, H3, F3, e3, o3, k3, f3, q3⟩ := copy_app (H := H2) (m := fun k => decide (k % 3 = 0)) (hf := oneCell_bool) (bytes := 1) ((bools_of ht).keep (k0.trans (k1.trans k2))) (by omega)
  have n3 := k3.nxt
  have g3 := (k3.get H.nxt (by omega)).trans g2
  have g3r := (k3.get (H.nxt + 1) (by omega)).trans g2r
  have o1' := (rSlc rInt).ownKeep o1 (k2.trans k3)
  have o2' := (rSlc rBool).ownKeep o2 k3
  obtain ⟨a1, b1⟩ := slc_cell ((rSlc rInt).ownrd o1)
  obtain ⟨a2, b2⟩ := slc_cell ((rSlc rBool).ownrd o2)
  obtain ⟨a3, b3⟩ := slc_cell ((rSlc rBool).ownrd o3)
  simp (maxSteps := 4000000) (disch := omega) only [ZD, Zio, Zip, pre_, beq_self_eq_true, Nat.reduceBEq, Zq, evO, vbox, wr, Zeq, if_true, if_false, Nat.reduceEqDiff, Nat.reduceAdd, Nat.reduceLeDiff, Nat.reduceSub, and_self, and_true, true_and, reduceIte, reduceCtorEq, eq_self, implies_true, forall_const, false_implies, imp_self, decide_true, decide_false, fix_nil, fix_cons, g0, g0r, g1, g1r, g2, g2r, g3, g3r, G_dreg, GD_app, e1, e2, e3, a1, b1, a2, b2, a3, b3]
  first | with_reducible refine And.intro (by repeat' (first | apply And.intro | omega)) ?_ | skip
  have hF := fresh_app f1 (fresh_app f2 f3 n2 n3) n1 (by omega)
  refine ⟨(k0.trans (k1.trans (k2.trans k3))).set' (by omega), [u1, u2, u3], F1 ++ (F2 ++ F3), rfl, ?_, hF.1, fun a ha => ?_⟩
  · refine rLocking.ownk (locking_own' o1' o2' o3) (by rw [Zbh]; omega) (fun a ha => ?_)
    have := hF.2 a ha
    rw [Zbi, if_neg (by omega)]
  · have := hF.2 a ha
    rw [Zbh]
    omega
theorem r_spec_l06Copy (hp : (rSlc rInt).rd H [vp] pos) (hs : (rSlc rBool).rd H [vs] set) (ht : (rSlc rBool).rd H [vt] taken) (tl : rLocking.tot (pos, set, taken) ≤ 1048576) : Run Try.prog 58 [.agg #[vp, vs, vt]] H fun r H' => Keep H H' ∧ ∃ cs F, r = rLocking.val cs ∧ rLocking.own H' cs (pos, set, taken) F ∧ Fresh H H' F := by
  obtain ⟨m1, m2, m3⟩ := lock_tot tl
  have ls : ∀ H : Heap, vlen H vs = some (.int .i64 set.length, H) := fun _ => slc_len hs
  have lt : ∀ H : Heap, vlen H vt = some (.int .i64 taken.length, H) := fun _ => slc_len ht
  refine Run.intro c58 rfl ?_
  simp (maxSteps := 4000000) (disch := omega) only [Zq, evO, vbox, wr, Zeq, if_true, if_false, Nat.reduceEqDiff, Nat.reduceAdd, Nat.reduceLeDiff, Nat.reduceSub, and_self, and_true, true_and, reduceIte, reduceCtorEq, eq_self, implies_true, forall_const, false_implies, imp_self, decide_true, decide_false, x58]
  generalize hG0 : (H.push [vp, vs, vt]).push [.slice none 0 0, .slice none 0 0, .slice none 0 0] = H0
  have k0 : Keep H H0 := by rw [← hG0]; repeat' (first | exact Keep.refl _ | assumption | refine Keep.push' ?_ | refine Keep.set' ?_ ?_ | refine Keep.moved' ?_ ?_ | omega)
  have g0 : H0.get H.nxt = some (.own [vp, vs, vt]) := by rw [← hG0]; simp (maxSteps := 4000000) (disch := omega) only [Zq, evO, vbox, wr, Zeq, if_true, if_false, Nat.reduceEqDiff, Nat.reduceAdd, Nat.reduceLeDiff, Nat.reduceSub, and_self, and_true, true_and, reduceIte, reduceCtorEq, eq_self, implies_true, forall_const, false_implies, imp_self, decide_true, decide_false]
  have g0r : H0.get (H.nxt + 1) = some (.own [.slice none 0 0, .slice none 0 0, .slice none 0 0]) := by rw [← hG0]; simp (maxSteps := 4000000) (disch := omega) only [Zq, evO, vbox, wr, Zeq, if_true, if_false, Nat.reduceEqDiff, Nat.reduceAdd, Nat.reduceLeDiff, Nat.reduceSub, and_self, and_true, true_and, reduceIte, reduceCtorEq, eq_self, implies_true, forall_const, false_implies, imp_self, decide_true, decide_false]
  have n0 : H0.nxt = H.nxt + 2 := by rw [← hG0]; simp only [Zbg]
  clear hG0
  refine GO_call ((r_spec_l01Copy ((ints_of hp).keep k0) m1).mono ?_)
  rintro u1 H1 ⟨k1, o1⟩
  have n1 := k1.nxt
  have g1 := (k1.get H.nxt (by omega)).trans g0
  have g1r := (k1.get (H.nxt + 1) (by omega)).trans g0r
  obtain ⟨F1, o1, f1⟩ := o1.ownI
  obtain ⟨a1, b1⟩ := slc_cell ((rSlc rInt).ownrd o1)
  simp (maxSteps := 4000000) (disch := omega) only [Zq, evO, vbox, wr, Zeq, if_true, if_false, Nat.reduceEqDiff, Nat.reduceAdd, Nat.reduceLeDiff, Nat.reduceSub, and_self, and_true, true_and, reduceIte, reduceCtorEq, eq_self, implies_true, forall_const, false_implies, imp_self, decide_true, decide_false, fix_nil, fix_cons, g0, g0r, g1, g1r, a1, b1]
  generalize hG2 : (H1.push [.slice none 0 0, .slice none 0 0, .slice none 0 0]).set H1.nxt [u1, .slice none 0 0, .slice none 0 0] = H2
  have k2 : Keep H1 H2 := by rw [← hG2]; repeat' (first | exact Keep.refl _ | assumption | refine Keep.push' ?_ | refine Keep.set' ?_ ?_ | refine Keep.moved' ?_ ?_ | omega)
  have g2 : H2.get H1.nxt = some (.own [u1, .slice none 0 0, .slice none 0 0]) := by rw [← hG2, Zbi, if_pos rfl]
  have n2 : H2.nxt = H1.nxt + 1 := by rw [← hG2, Zbh, Zbg]
  have g2a := (k2.get H.nxt (by omega)).trans g1
  have g2r := (k2.get (H.nxt + 1) (by omega)).trans g1r
  have k02 := k0.trans (k1.trans k2)
  have o12 := (rSlc rInt).ownKeep o1 k2
  clear hG2
  refine G_forF [1, 2, 3] (set.length) (fun i T H3 => T 4 = .int .i64 (i : Int) ∧ Chg [H1.nxt] H2 H3 ∧ ∃ w F, H3.get H1.nxt = some (.own [u1, w, .slice none 0 0]) ∧ (rSlc rBool).own H3 [w] (set.take i) F ∧ F.Nodup ∧ ∀ a ∈ F, H2.nxt ≤ a ∧ a < H3.nxt) 0 (Nat.zero_le _) ?_ ?_
  · simp (maxSteps := 4000000) (disch := omega) only [Zq, evO, vbox, wr, Zeq, if_true, if_false, Nat.reduceEqDiff, Nat.reduceAdd, Nat.reduceLeDiff, Nat.reduceSub, and_self, and_true, true_and, reduceIte, reduceCtorEq, eq_self, implies_true, forall_const, false_implies, imp_self, decide_true, decide_false, fix_nil, fix_cons, g0, g0r, g1, g1r, g2, g2a, g2r]
    exact ⟨Chg.refl _ _, _, [], rfl, .inl ⟨rfl, rfl, rfl⟩, by simp, fun a ha => by cases ha⟩
  rintro i T H3 hi hT ⟨t4, c3, w, F, g3, o3, nd3, f3⟩
  simp only [fix_nil, fix_cons, Zq, evO, vbox, wr, Zeq, if_true, if_false, Nat.reduceEqDiff, Nat.reduceAdd, Nat.reduceLeDiff, Nat.reduceSub, and_self, and_true, true_and, reduceIte, reduceCtorEq, eq_self, implies_true, forall_const, false_implies, imp_self, decide_true, decide_false] at hT
  obtain ⟨t1, t2, t3⟩ := hT
  have n3 := c3.nxt
  have k03 : Keep H H3 := c3.keep k02 (fun i hi => by simp at hi; omega)
  have g3a := (c3.get H.nxt (by omega) (by simp; omega)).trans g2a
  have g3r := (c3.get (H.nxt + 1) (by omega) (by simp; omega)).trans g2r
  by_cases hin : i < set.length
  · have eb := bool_el ((rSlc rBool).rdk hs k03) hin
    have hbw := slc_blk hs hin
    obtain ⟨x, H5, F5, e5, o5, c5, f5, nd5, _⟩ := own_app (bytes := 1) (r := rBool) (sz := 1) rfl (by omega) o3 (row := [.bool (set.getD i false)]) (y := set.getD i false) (G := []) ⟨rfl, rfl⟩ nd3 (by simp) (by simp) (by rw [List.length_take]; omega)
    rw [← take_snoc set false hin] at o5
    have n5 := c5.nxt
    have old : ∀ a, a < H3.nxt → a ∉ F → H5.get a = H3.get a := fun a ha hF => c5.get a ha hF
    have g5 := (old H1.nxt (by omega) (fun h => by have := f3 _ h; omega)).trans g3
    have g5a := (old H.nxt (by omega) (fun h => by have := f3 _ h; omega)).trans g3a
    have hw := old (blk vs) (by omega) (fun h => by have := f3 _ h; omega)
    obtain ⟨xa, xb⟩ := slc_cell ((rSlc rBool).ownrd o5)
    simp (maxSteps := 4000000) (disch := omega) only [Zq, evO, vbox, wr, Zeq, if_true, if_false, Nat.reduceEqDiff, Nat.reduceAdd, Nat.reduceLeDiff, Nat.reduceSub, and_self, and_true, true_and, reduceIte, reduceCtorEq, eq_self, implies_true, forall_const, false_implies, imp_self, decide_true, decide_false, fix_nil, fix_cons, g0, g0r, g1, g1r, g2, g2a, g2r, t1, t2, t3, t4, g3, g3a, g3r, g5, g5a, ls]
    simp (maxSteps := 4000000) (disch := omega) only [ZD, Zio, Zip, pre_, beq_self_eq_true, Nat.reduceBEq, Zq, evO, vbox, wr, Zeq, if_true, if_false, Nat.reduceEqDiff, Nat.reduceAdd, Nat.reduceLeDiff, Nat.reduceSub, and_self, and_true, true_and, reduceIte, reduceCtorEq, eq_self, implies_true, forall_const, false_implies, imp_self, decide_true, decide_false, fix_nil, fix_cons, g0, g0r, g1, g1r, g2, g2a, g2r, t1, t2, t3, t4, g3, g3a, g3r, g5, g5a, G_dreg, GD_app, slc_idx (r := rBool) (sz := 1) rfl hs hin, eb, e5, xa, xb, slc_trL (r := rBool) (sz := 1) rfl hs hin, hw]
    first | with_reducible refine And.intro (by repeat' (first | apply And.intro | omega)) ?_ | skip
    refine ⟨hin, ⟨by rw [Zbh]; omega, fun a ha hne => ?_⟩, x, F5, rfl, (rSlc rBool).ownk o5 (by rw [Zbh]; omega) (fun a ha => ?_), nd5, fun a ha => ?_⟩
    · rw [Zbi, if_neg (by simpa using hne), old a (by omega) (fun h => by have := f3 _ h; omega), c3.get a ha hne]
    · rw [Zbi, if_neg]
      rcases f5 a ha with h | h | h
      · have := f3 a h; omega
      · simp at h
      · omega
    · rcases f5 a ha with h | h | h
      · have := f3 a h; omega
      · simp at h
      · omega
  obtain rfl : i = set.length := by omega
  rw [List.take_length] at o3
  simp (maxSteps := 4000000) (disch := omega) only [Zq, evO, vbox, wr, Zeq, if_true, if_false, Nat.reduceEqDiff, Nat.reduceAdd, Nat.reduceLeDiff, Nat.reduceSub, and_self, and_true, true_and, reduceIte, reduceCtorEq, eq_self, implies_true, forall_const, false_implies, imp_self, decide_true, decide_false, fix_nil, fix_cons, g0, g0r, g1, g1r, g2, g2a, g2r, t1, t2, t3, t4, g3, g3a, g3r, ls]
  clear hi t4 g2 g2a g2r g1 g1r g0 g0r
  refine G_forF [1, 2, 3] (taken.length) (fun j T H4 => T 5 = .int .i64 (j : Int) ∧ Chg [H1.nxt] H3 H4 ∧ ∃ z E, H4.get H1.nxt = some (.own [u1, w, z]) ∧ (rSlc rBool).own H4 [z] (taken.take j) E ∧ E.Nodup ∧ ∀ a ∈ E, H3.nxt ≤ a ∧ a < H4.nxt) 0 (Nat.zero_le _) ?_ ?_
  · simp (maxSteps := 4000000) (disch := omega) only [Zq, evO, vbox, wr, Zeq, if_true, if_false, Nat.reduceEqDiff, Nat.reduceAdd, Nat.reduceLeDiff, Nat.reduceSub, and_self, and_true, true_and, reduceIte, reduceCtorEq, eq_self, implies_true, forall_const, false_implies, imp_self, decide_true, decide_false, fix_nil, fix_cons, t1, t2, t3, g3, g3a, g3r]
    exact ⟨Chg.refl _ _, _, [], rfl, .inl ⟨rfl, rfl, rfl⟩, by simp, fun a ha => by cases ha⟩
  rintro j T H4 hj hT ⟨t5, c4, z, E, g4, o4, nd4, f4⟩
  simp only [fix_nil, fix_cons, Zq, evO, vbox, wr, Zeq, if_true, if_false, Nat.reduceEqDiff, Nat.reduceAdd, Nat.reduceLeDiff, Nat.reduceSub, and_self, and_true, true_and, reduceIte, reduceCtorEq, eq_self, implies_true, forall_const, false_implies, imp_self, decide_true, decide_false, t1, t2, t3] at hT
  obtain ⟨t1, t2, t3⟩ := hT
  have n4 := c4.nxt
  have k04 : Keep H H4 := c4.keep k03 (fun i hi => by simp at hi; omega)
  have g4a := (c4.get H.nxt (by omega) (by simp; omega)).trans g3a
  have g4r := (c4.get (H.nxt + 1) (by omega) (by simp; omega)).trans g3r
  by_cases hin : j < taken.length
  · have eb := bool_el ((rSlc rBool).rdk ht k04) hin
    have hbw := slc_blk ht hin
    obtain ⟨x, H5, F5, e5, o5, c5, f5, nd5, _⟩ := own_app (bytes := 1) (r := rBool) (sz := 1) rfl (by omega) o4 (row := [.bool (taken.getD j false)]) (y := taken.getD j false) (G := []) ⟨rfl, rfl⟩ nd4 (by simp) (by simp) (by rw [List.length_take]; omega)
    rw [← take_snoc taken false hin] at o5
    have n5 := c5.nxt
    have old : ∀ a, a < H4.nxt → a ∉ E → H5.get a = H4.get a := fun a ha hF => c5.get a ha hF
    have g5 := (old H1.nxt (by omega) (fun h => by have := f4 _ h; omega)).trans g4
    have g5a := (old H.nxt (by omega) (fun h => by have := f4 _ h; omega)).trans g4a
    have hw := old (blk vt) (by omega) (fun h => by have := f4 _ h; omega)
    obtain ⟨xa, xb⟩ := slc_cell ((rSlc rBool).ownrd o5)
    simp (maxSteps := 4000000) (disch := omega) only [Zq, evO, vbox, wr, Zeq, if_true, if_false, Nat.reduceEqDiff, Nat.reduceAdd, Nat.reduceLeDiff, Nat.reduceSub, and_self, and_true, true_and, reduceIte, reduceCtorEq, eq_self, implies_true, forall_const, false_implies, imp_self, decide_true, decide_false, fix_nil, fix_cons, t1, t2, t3, g3, g3a, g3r, t5, g4, g4a, g4r, g5, g5a, lt]
    simp (maxSteps := 4000000) (disch := omega) only [ZD, Zio, Zip, pre_, beq_self_eq_true, Nat.reduceBEq, Zq, evO, vbox, wr, Zeq, if_true, if_false, Nat.reduceEqDiff, Nat.reduceAdd, Nat.reduceLeDiff, Nat.reduceSub, and_self, and_true, true_and, reduceIte, reduceCtorEq, eq_self, implies_true, forall_const, false_implies, imp_self, decide_true, decide_false, fix_nil, fix_cons, t1, t2, t3, g3, g3a, g3r, t5, g4, g4a, g4r, g5, g5a, G_dreg, GD_app, slc_idx (r := rBool) (sz := 1) rfl ht hin, eb, e5, xa, xb, slc_trL (r := rBool) (sz := 1) rfl ht hin, hw]
    first | with_reducible refine And.intro (by repeat' (first | apply And.intro | omega)) ?_ | skip
    refine ⟨hin, ⟨by rw [Zbh]; omega, fun a ha hne => ?_⟩, x, F5, rfl, (rSlc rBool).ownk o5 (by rw [Zbh]; omega) (fun a ha => ?_), nd5, fun a ha => ?_⟩
    · rw [Zbi, if_neg (by simpa using hne), old a (by omega) (fun h => by have := f4 _ h; omega), c4.get a ha hne]
    · rw [Zbi, if_neg]
      rcases f5 a ha with h | h | h
      · have := f4 a h; omega
      · simp at h
      · omega
    · rcases f5 a ha with h | h | h
      · have := f4 a h; omega
      · simp at h
      · omega
  obtain rfl : j = taken.length := by omega
  rw [List.take_length] at o4
  have o14 := (rSlc rInt).ownChg (G := [H1.nxt]) o12 (c3.trans ⟨c4.nxt, fun a ha hn => c4.get a ha hn⟩) (fun a ha hm => by have := f1.2 a ha; simp at hm; omega)
  have o34 := (rSlc rBool).ownChg o3 c4 (fun a ha hm => by have := f3 a ha; simp at hm; omega)
  simp (maxSteps := 4000000) (disch := omega) only [Zq, evO, vbox, wr, Zeq, if_true, if_false, Nat.reduceEqDiff, Nat.reduceAdd, Nat.reduceLeDiff, Nat.reduceSub, and_self, and_true, true_and, reduceIte, reduceCtorEq, eq_self, implies_true, forall_const, false_implies, imp_self, decide_true, decide_false, fix_nil, fix_cons, t1, t2, t3, g3, g3a, g3r, t5, g4, g4a, g4r, lt]
  have hF : Fresh H0 H4 (F1 ++ (F ++ E)) := by
    refine ⟨List.nodup_append.2 ⟨f1.1, List.nodup_append.2 ⟨nd3, nd4, fun a ha b hb e => by have := f3 a ha; have := f4 b hb; omega⟩, fun a ha b hb e => ?_⟩, fun a ha => ?_⟩
    · have := f1.2 a ha
      rcases List.mem_append.1 hb with h | h
      · have := f3 b h; omega
      · have := f4 b h; omega
    · rcases List.mem_append.1 ha with h | h
      · have := f1.2 a h; omega
      · rcases List.mem_append.1 h with h | h
        · have := f3 a h; omega
        · have := f4 a h; omega
  refine ⟨k04.set' (by omega), [u1, w, z], F1 ++ (F ++ E), rfl, ?_, hF.1, fun a ha => ?_⟩
  · refine rLocking.ownk (locking_own' o14 o34 o4) (by rw [Zbh]; omega) (fun a ha => ?_)
    have := hF.2 a ha
    rw [Zbi, if_neg (by omega)]
  · have := hF.2 a ha
    rw [Zbh]
    omega
end
end Go.Proofs.Ythjphddodooahaa.AX
