/- Planned: the reference's walk. No condition beyond each law's own; of the program: the functions' forms. -/
import Derived.Test.YtjjglonmaajjoaaPlp2
import Derived.Test.YtjjglonmaajjoaaXP
namespace Go.Proofs.Ytjjglonmaajjoaa.AX
open Go
set_option maxRecDepth 10000
set_option maxHeartbeats 4000000
set_option linter.unusedSimpArgs false
set_option linter.unusedVariables false
theorem Bst.nat {s : List Rn} {D : List Int} {i : Nat} {z : Int} (h : Bst s D i z) (hz : ¬ z < 0) : ∃ b : Nat, z = b ∧ b < i := by
  rcases h with ⟨rfl, _⟩ | ⟨b, h1, h2, _⟩
  · omega
  · exact ⟨b, h1, h2⟩
theorem NewF.agreeP {α : Type} {f : α → List Value} {n : Nat} {H0 H1 H2 : Heap} {v : Value} {xs : List α} (h : NewF f n H0 H1 v xs) (hn : H1.nxt ≤ H2.nxt) (hg : H2.get (blk v) = H1.get (blk v)) : NewF f n H0 H2 v xs := by
  obtain ⟨p, h1, h2, rfl, h4⟩ := h
  exact ⟨p, h1, by omega, rfl, by rw [← h4]; exact hg⟩
theorem NewF.blksP {α : Type} {f : α → List Value} {n : Nat} {H0 H1 : Heap} {v : Value} {xs : List α} (h : NewF f n H0 H1 v xs) : H0.nxt ≤ blk v ∧ blk v < H1.nxt := by
  obtain ⟨p, h1, h2, rfl, h4⟩ := h
  exact ⟨h1, h2⟩
theorem hasP_hit {xs : List Int} {i : Nat} {x : Int} (h : i < xs.length) (he : xs.getD i 0 = x) : xs.contains x = true := by
  rw [List.contains_iff_mem, ← he, getD_get _ _ h]
  exact List.getElem_mem h
theorem hasP_miss {xs : List Int} {i : Nat} {x : Int} (h : i < xs.length) (he : xs.getD i 0 ≠ x) (hc : (xs.take i).contains x = false) : (xs.take (i + 1)).contains x = false := by
  rw [take_snoc xs 0 h, List.contains_append, hc]
  simp
  exact fun e => he e.symm
theorem r_spec_l01HasP {v : Value} {xs : List Int} {x : Int} {H : Heap} (h : Ints H v xs) (hl : xs.length ≤ 17592186044416) : Run Try.prog 79 [v, .int .i64 x] H fun r H' => Keep H H' ∧ r = .bool (xs.contains x) := by
  refine Run.intro c79 rfl ?_
  simp (maxSteps := 4000000) (disch := omega) only [Zq, evO, vbox, wr, Zeq, if_true, if_false, Nat.reduceEqDiff, Nat.reduceAdd, Nat.reduceLeDiff, Nat.reduceSub, and_self, and_true, true_and, reduceIte, reduceCtorEq, eq_self, implies_true, forall_const, false_implies, imp_self, decide_true, decide_false, x79]
  refine G_forF [0, 1] (xs.length) (fun i T H1 => T 5 = .int .i64 (i : Int) ∧ Keep H H1 ∧ (xs.take i).contains x = false) 0 (Nat.zero_le _) ?_ ?_
  · simp (maxSteps := 4000000) (disch := omega) only [Zq, evO, vbox, wr, Zeq, if_true, if_false, Nat.reduceEqDiff, Nat.reduceAdd, Nat.reduceLeDiff, Nat.reduceSub, and_self, and_true, true_and, reduceIte, reduceCtorEq, eq_self, implies_true, forall_const, false_implies, imp_self, decide_true, decide_false]
    exact ⟨Keep.refl _, by simp⟩
  · rintro i T H1 hi hT ⟨t5, k1, hc⟩
    simp only [fix_nil, fix_cons, Zq, evO, vbox, wr, Zeq, if_true, if_false, Nat.reduceEqDiff, Nat.reduceAdd, Nat.reduceLeDiff, Nat.reduceSub, and_self, and_true, true_and, reduceIte, reduceCtorEq, eq_self, implies_true, forall_const, false_implies, imp_self, decide_true, decide_false] at hT
    obtain ⟨t0, t1⟩ := hT
    have h1 := h.keep k1
    by_cases hin : i < xs.length
    · by_cases he : xs.getD i 0 = x
      · simp (maxSteps := 4000000) (disch := omega) only [Zq, evO, vbox, wr, Zeq, if_true, if_false, Nat.reduceEqDiff, Nat.reduceAdd, Nat.reduceLeDiff, Nat.reduceSub, and_self, and_true, true_and, reduceIte, reduceCtorEq, eq_self, implies_true, forall_const, false_implies, imp_self, decide_true, decide_false, fix_nil, fix_cons, t0, t1, t5, h1.len_, h1.idx hin, h1.ld hin]
        exact ⟨k1, by rw [hasP_hit hin he]⟩
      · simp (maxSteps := 4000000) (disch := omega) only [Zq, evO, vbox, wr, Zeq, if_true, if_false, Nat.reduceEqDiff, Nat.reduceAdd, Nat.reduceLeDiff, Nat.reduceSub, and_self, and_true, true_and, reduceIte, reduceCtorEq, eq_self, implies_true, forall_const, false_implies, imp_self, decide_true, decide_false, fix_nil, fix_cons, t0, t1, t5, h1.len_, h1.idx hin, h1.ld hin]
        exact ⟨hin, k1, hasP_miss hin he hc⟩
    · simp (maxSteps := 4000000) (disch := omega) only [Zq, evO, vbox, wr, Zeq, if_true, if_false, Nat.reduceEqDiff, Nat.reduceAdd, Nat.reduceLeDiff, Nat.reduceSub, and_self, and_true, true_and, reduceIte, reduceCtorEq, eq_self, implies_true, forall_const, false_implies, imp_self, decide_true, decide_false, fix_nil, fix_cons, t0, t1, t5, h1.len_]
      obtain rfl : i = xs.length := by omega
      rw [List.take_length] at hc
      exact ⟨k1, by rw [hc]⟩
section
variable {H : Heap} {v w : Value} {n : Int} {es : List Ed} {l : List Tp}
theorem r_spec_Planned (he : (rSlc rEdge).rd H [v] es) (hl : es.length ≤ 1048576) (hr : (rSlc rTrip).rd H [w] l) (ht : (rSlc rTrip).tot l ≤ 1048576) : Run Try.prog 48 [.agg #[.int .i64 n, v], w] H fun r H' => Keep H H' ∧ OwnS rRun H H' r (if ridden n es l then planR (allR l l.length) else []) := by
  have lw : ∀ H : Heap, vlen H w = some (.int .i64 l.length, H) := fun _ => slc_len hr
  refine Run.intro c48 rfl ?_
  simp (maxSteps := 4000000) (disch := omega) only [Zq, evO, vbox, wr, Zeq, if_true, if_false, Nat.reduceEqDiff, Nat.reduceAdd, Nat.reduceLeDiff, Nat.reduceSub, and_self, and_true, true_and, reduceIte, reduceCtorEq, eq_self, implies_true, forall_const, false_implies, imp_self, decide_true, decide_false, x48]
  generalize hG0 : H.push [.int .i64 n, v] = H0
  have k0 : Keep H H0 := by rw [← hG0]; exact Keep.push _ _
  have g0 : H0.get H.nxt = some (.own [.int .i64 n, v]) := by rw [← hG0, push_get', if_pos rfl]
  have n0 : H0.nxt = H.nxt + 1 := by rw [← hG0, Zbg]
  have o0 : NewF runC 4 H0 (H0.push []) (.slice (some ⟨H0.nxt, 0, none⟩) 0 4) [] := NewF.new (Keep.refl _)
  have k1 : Keep H0 (H0.push []) := Keep.push _ _
  have g1 := (k1.get H.nxt (by omega)).trans g0
  have n1 : (H0.push []).nxt = H0.nxt + 1 := by simp only [Zbg]
  rw [n0] at o0
  generalize hG : H0.push [] = H1 at *
  clear hG
  have k01 := k0.trans k1
  refine GO_call ((r_spec_Ridden (n := n) ((rSlc rEdge).rdk he k01) hl ((rSlc rTrip).rdk hr k01) ht).mono ?_)
  rintro _ H2 ⟨k2, rfl⟩
  have n2 := k2.nxt
  have k02 := k01.trans k2
  have o2 := o0.keep k2
  cases c1 : ridden n es l with
  | false =>
    simp (maxSteps := 4000000) (disch := omega) only [Zq, evO, vbox, wr, Zeq, if_true, if_false, Nat.reduceEqDiff, Nat.reduceAdd, Nat.reduceLeDiff, Nat.reduceSub, and_self, and_true, true_and, reduceIte, reduceCtorEq, eq_self, implies_true, forall_const, false_implies, imp_self, decide_true, decide_false, fix_nil, fix_cons, g0, g1, c1]
    exact ⟨k02, own_nil⟩
  | true =>
  obtain ⟨hes, l24, htp, _⟩ := ridden_get c1
  have hal : ∀ i, i ≤ l.length → (allR l i).length ≤ 11 * i := fun i hi => allR_len fun j hj => (tpOk_get (htp j (by omega))).2.1
  simp (maxSteps := 4000000) (disch := omega) only [Zq, evO, vbox, wr, Zeq, if_true, if_false, Nat.reduceEqDiff, Nat.reduceAdd, Nat.reduceLeDiff, Nat.reduceSub, and_self, and_true, true_and, reduceIte, reduceCtorEq, eq_self, implies_true, forall_const, false_implies, imp_self, decide_true, decide_false, fix_nil, fix_cons, g0, g1, c1]
  refine G_forF [1] (l.length) (fun i T H3 => T 6 = .int .i64 (i : Int) ∧ Keep H0 H3 ∧ ∃ u, T 5 = u ∧ NewF runC 4 H0 H3 u (allR l i)) 0 (Nat.zero_le _) ?_ ?_
  · simp (maxSteps := 4000000) (disch := omega) only [Zq, evO, vbox, wr, Zeq, if_true, if_false, Nat.reduceEqDiff, Nat.reduceAdd, Nat.reduceLeDiff, Nat.reduceSub, and_self, and_true, true_and, reduceIte, reduceCtorEq, eq_self, implies_true, forall_const, false_implies, imp_self, decide_true, decide_false, fix_nil, fix_cons, g0, g1]
    exact ⟨k1.trans k2, _, rfl, o2⟩
  rintro i T H3 hi hT ⟨t6, k3, u, t5, o3⟩
  simp only [fix_nil, fix_cons, Zq, evO, vbox, wr, Zeq, if_true, if_false, Nat.reduceEqDiff, Nat.reduceAdd, Nat.reduceLeDiff, Nat.reduceSub, and_self, and_true, true_and, reduceIte, reduceCtorEq, eq_self, implies_true, forall_const, false_implies, imp_self, decide_true, decide_false] at hT
  have t1 := hT
  have k03 := k0.trans k3
  have n3 := k3.nxt
  by_cases hin : i < l.length
  rotate_left
  · obtain rfl : i = l.length := by omega
    have hN := hal l.length (Nat.le_refl _)
    have hp := allR_inc (l := l) l.length
    generalize allR l l.length = s at *
    obtain ⟨F3, hF3, _⟩ := o3.own (hl := runC_len) (m := runM)
    have hu := (rSlc rRun).ownrd hF3
    have lu : ∀ H : Heap, vlen H u = some (.int .i64 s.length, H) := fun _ => slc_len hu
    simp (maxSteps := 4000000) (disch := omega) only [Zq, evO, vbox, wr, Zeq, if_true, if_false, Nat.reduceEqDiff, Nat.reduceAdd, Nat.reduceLeDiff, Nat.reduceSub, and_self, and_true, true_and, reduceIte, reduceCtorEq, eq_self, implies_true, forall_const, false_implies, imp_self, decide_true, decide_false, fix_nil, fix_cons, g0, g1, t1, t6, t5, lw]
    have oo : NewF runC 4 H3 (H3.push []) (.slice (some ⟨H3.nxt, 0, none⟩) 0 4) [] := NewF.new (Keep.refl _)
    have od : NewI H3 ((H3.push []).push []) (.slice (some ⟨(H3.push []).nxt, 0, none⟩) 0 1) [] := NewF.new (Keep.push _ _)
    have oo' := oo.keep (Keep.push (H3.push []) [])
    have k4 : Keep H3 ((H3.push []).push []) := (Keep.push H3 []).push'
    rw [show (H3.push []).nxt = H3.nxt + 1 by simp only [Zbg]] at od
    clear oo
    generalize (H3.push []).push [] = H4 at *
    refine G_loopF [5] ((s.length)) (fun k T H5 => ∃ D : List Int, ∃ uo ud, T 8 = uo ∧ T 9 = ud ∧ k = s.length - D.length ∧ Keep H3 H5 ∧ NewF runC 4 H3 H5 uo (outOf s D) ∧ NewI H3 H5 ud D ∧ blk uo ≠ blk ud ∧ Sel s D) ?_ ?_
    · simp (maxSteps := 4000000) (disch := omega) only [Zq, evO, vbox, wr, Zeq, if_true, if_false, Nat.reduceEqDiff, Nat.reduceAdd, Nat.reduceLeDiff, Nat.reduceSub, and_self, and_true, true_and, reduceIte, reduceCtorEq, eq_self, implies_true, forall_const, false_implies, imp_self, decide_true, decide_false, fix_nil, fix_cons, g0, g1, t1, t6, t5]
      exact ⟨[], _, _, rfl, rfl, rfl, k4, oo', od, by simp [blk], Sel.nil s⟩
    rintro k T H5 hT ⟨D, uo, ud, t8, t9, hk, k5, oO, oD, hne, S⟩
    simp only [fix_nil, fix_cons, Zq, evO, vbox, wr, Zeq, if_true, if_false, Nat.reduceEqDiff, Nat.reduceAdd, Nat.reduceLeDiff, Nat.reduceSub, and_self, and_true, true_and, reduceIte, reduceCtorEq, eq_self, implies_true, forall_const, false_implies, imp_self, decide_true, decide_false, t1, t6, t5] at hT
    have t5 := hT
    have k05 := k03.trans k5
    have n5 := k5.nxt
    have hol := out_len s D
    have lo : ∀ H : Heap, vlen H uo = some (.int .i64 D.length, H) := fun H0 => by
      have := Sl.len_ (H1 := H0) (oO.sl runC_len)
      rw [hol] at this
      exact this
    obtain ⟨uo1, uo2⟩ : vcells uo = [uo] ∧ noTup uo = true := by
      obtain ⟨p, _, _, rfl, _⟩ := oO
      exact ⟨rfl, rfl⟩
    by_cases hd : D.length < s.length
    rotate_left
    · have hde : D.length = s.length := by have := S.le; omega
      simp (maxSteps := 4000000) (disch := omega) only [Zq, evO, vbox, wr, Zeq, if_true, if_false, Nat.reduceEqDiff, Nat.reduceAdd, Nat.reduceLeDiff, Nat.reduceSub, and_self, and_true, true_and, reduceIte, reduceCtorEq, eq_self, implies_true, forall_const, false_implies, imp_self, decide_true, decide_false, fix_nil, fix_cons, g0, g1, t1, t6, t5, t8, t9, lu, lo, uo2, Zfi (by omega : ¬ (D.length : Int) < (s.length : Int))]
      refine ⟨k05, ?_⟩
      have e := S.end hp hde
      rw [← e]
      exact (oO.base (H0 := H) (by omega)).own (hl := runC_len) (m := runM)
    simp (maxSteps := 4000000) (disch := omega) only [Zq, evO, vbox, wr, Zeq, if_true, if_false, Nat.reduceEqDiff, Nat.reduceAdd, Nat.reduceLeDiff, Nat.reduceSub, and_self, and_true, true_and, reduceIte, reduceCtorEq, eq_self, implies_true, forall_const, false_implies, imp_self, decide_true, decide_false, fix_nil, fix_cons, g0, g1, t1, t6, t5, t8, t9, lu, lo, Zfh (by omega : (D.length : Int) < (s.length : Int))]
    refine G_forF [5, 8, 9] (s.length) (fun i T H6 => T 11 = .int .i64 (i : Int) ∧ Keep H5 H6 ∧ ∃ z : Int, T 10 = .int .i64 z ∧ Bst s D i z) 0 (Nat.zero_le _) ?_ ?_
    · simp (maxSteps := 4000000) (disch := omega) only [Zq, evO, vbox, wr, Zeq, if_true, if_false, Nat.reduceEqDiff, Nat.reduceAdd, Nat.reduceLeDiff, Nat.reduceSub, and_self, and_true, true_and, reduceIte, reduceCtorEq, eq_self, implies_true, forall_const, false_implies, imp_self, decide_true, decide_false, fix_nil, fix_cons, g0, g1, t1, t6, t5, t8, t9]
      exact ⟨Keep.refl _, _, rfl, Bst.zero s D⟩
    rintro i T H6 hi hT ⟨t11, k6, z, t10, B⟩
    simp only [fix_nil, fix_cons, Zq, evO, vbox, wr, Zeq, if_true, if_false, Nat.reduceEqDiff, Nat.reduceAdd, Nat.reduceLeDiff, Nat.reduceSub, and_self, and_true, true_and, reduceIte, reduceCtorEq, eq_self, implies_true, forall_const, false_implies, imp_self, decide_true, decide_false, t1, t6, t5, t8, t9] at hT
    obtain ⟨t5, t8, t9⟩ := hT
    have n6 := k6.nxt
    have k36 := k5.trans k6
    by_cases his : i < s.length
    rotate_left
    · obtain rfl : i = s.length := by omega
      obtain ⟨b, rfl, hb, S'⟩ := B.end S hd
      have eD : (D ++ [(b : Int)]).length = D.length + 1 := by simp
      simp (maxSteps := 4000000) (disch := omega) only [Zq, evO, vbox, wr, Zeq, if_true, if_false, Nat.reduceEqDiff, Nat.reduceAdd, Nat.reduceLeDiff, Nat.reduceSub, and_self, and_true, true_and, reduceIte, reduceCtorEq, eq_self, implies_true, forall_const, false_implies, imp_self, decide_true, decide_false, fix_nil, fix_cons, g0, g1, t1, t6, t5, t8, t9, t11, t10, lu]
      obtain ⟨ud', H7, e7, o7, kk7, n7, ap7, bk7⟩ := NewF.one2 (bytes := 8) (y := (b : Int)) (fZ_len .i64) (by omega) (oD.keep k6) (by omega)
      simp only [fZ] at e7
      have hob := oO.blksP
      have hdb := oD.blksP
      have oO7 : NewF runC 4 H3 H7 uo (outOf s D) := (oO.keep k6).agreeP n7 (ap7 _ (by omega) hne)
      have k37 := kk7 H3 (Nat.le_refl _) k36
      obtain ⟨r1, _, _⟩ := run_elK hu hb H7 k37
      have ixb := fun H0 : Heap => slc_idx (r := rRun) (H1 := H0) (sz := 4) (i := b) (k := .i64) rfl hu hb
      obtain ⟨uo', H8, e8, o8, kk8, n8, ap8, bk8⟩ := NewF.one2 (bytes := 32) (y := rn s b) runC_len (by omega) oO7 (by rw [hol]; omega)
      simp only [runC] at e8
      simp (maxSteps := 4000000) (disch := omega) only [Zq, evO, vbox, wr, Zeq, if_true, if_false, Nat.reduceEqDiff, Nat.reduceAdd, Nat.reduceLeDiff, Nat.reduceSub, and_self, and_true, true_and, reduceIte, reduceCtorEq, eq_self, implies_true, forall_const, false_implies, imp_self, decide_true, decide_false, fix_nil, fix_cons, g0, g1, t1, t6, t5, t8, t9, t11, t10, e7, ixb, r1, e8]
      have hdb7 := o7.blksP
      have hx : blk ud' ≠ blk uo := by
        rcases bk7 with h | h
        · rw [h]; exact fun q => hne q.symm
        · omega
      refine ⟨s.length - (D ++ [(b : Int)]).length, by omega, D ++ [(b : Int)], uo', ud', rfl, rfl, rfl, kk8 H3 (Nat.le_refl _) k37, by rw [out_app]; exact o8, o7.agreeP n8 (ap8 _ (by omega) hx), ?_, S'⟩
      rcases bk8 with h | h
      · rw [h]; exact fun q => hx q.symm
      · omega
    simp (maxSteps := 4000000) (disch := omega) only [Zq, evO, vbox, wr, Zeq, if_true, if_false, Nat.reduceEqDiff, Nat.reduceAdd, Nat.reduceLeDiff, Nat.reduceSub, and_self, and_true, true_and, reduceIte, reduceCtorEq, eq_self, implies_true, forall_const, false_implies, imp_self, decide_true, decide_false, fix_nil, fix_cons, g0, g1, t1, t6, t5, t8, t9, t11, t10, lu, Zfh (by omega : (i : Int) < (s.length : Int))]
    refine G_tame rfl ?_
    simp (maxSteps := 4000000) (disch := omega) only [Zq, evO, vbox, wr, Zeq, if_true, if_false, Nat.reduceEqDiff, Nat.reduceAdd, Nat.reduceLeDiff, Nat.reduceSub, and_self, and_true, true_and, reduceIte, reduceCtorEq, eq_self, implies_true, forall_const, false_implies, imp_self, decide_true, decide_false, fix_nil, fix_cons, g0, g1, t1, t6, t5, t8, t9, t11, t10]
    refine GO_call ((r_spec_l01HasP (x := (i : Int)) (oD.keep k6).intsK (by omega)).mono ?_)
    rintro _ H7 ⟨k7, rfl⟩
    have n7 := k7.nxt
    have k57 := k6.trans k7
    cases hc : D.contains (i : Int) with
    | true =>
      simp (maxSteps := 4000000) (disch := omega) only [Zq, evO, vbox, wr, Zeq, if_true, if_false, Nat.reduceEqDiff, Nat.reduceAdd, Nat.reduceLeDiff, Nat.reduceSub, and_self, and_true, true_and, reduceIte, reduceCtorEq, eq_self, implies_true, forall_const, false_implies, imp_self, decide_true, decide_false, fix_nil, fix_cons, g0, g1, t1, t6, t5, t8, t9, t11, t10, hc]
      exact ⟨his, k57, z, rfl, B.skip hc⟩
    | false =>
    by_cases hz : z < 0
    · simp (maxSteps := 4000000) (disch := omega) only [Zq, evO, vbox, wr, Zeq, if_true, if_false, Nat.reduceEqDiff, Nat.reduceAdd, Nat.reduceLeDiff, Nat.reduceSub, and_self, and_true, true_and, reduceIte, reduceCtorEq, eq_self, implies_true, forall_const, false_implies, imp_self, decide_true, decide_false, fix_nil, fix_cons, g0, g1, t1, t6, t5, t8, t9, t11, t10, hc, Zfh hz]
      exact ⟨his, k57, _, rfl, B.first hz hc⟩
    obtain ⟨b, rfl, hbi⟩ := B.nat hz
    have ixi := fun H0 : Heap => slc_idx (r := rRun) (H1 := H0) (sz := 4) (i := i) (k := .i64) rfl hu his
    have ixb := fun H0 : Heap => slc_idx (r := rRun) (H1 := H0) (sz := 4) (i := b) (k := .i64) rfl hu (by omega)
    have fxi := fun (H0 : Heap) (o off : Nat) => slc_fad (r := rRun) (H1 := H0) (sz := 4) (i := i) (o := o) (off := off) rfl hu his
    have fxb := fun (H0 : Heap) (o off : Nat) => slc_fad (r := rRun) (H1 := H0) (sz := 4) (i := b) (o := o) (off := off) rfl hu (by omega)
    obtain ⟨_, r1, _⟩ := run_elK hu his H7 (k36.trans k7)
    obtain ⟨_, r2, _⟩ := run_elK hu (by omega : b < s.length) H7 (k36.trans k7)
    by_cases hlt : (rn s i).2.2.1 < (rn s b).2.2.1
    · simp (maxSteps := 4000000) (disch := omega) only [Zq, evO, vbox, wr, Zeq, if_true, if_false, Nat.reduceEqDiff, Nat.reduceAdd, Nat.reduceLeDiff, Nat.reduceSub, and_self, and_true, true_and, reduceIte, reduceCtorEq, eq_self, implies_true, forall_const, false_implies, imp_self, decide_true, decide_false, fix_nil, fix_cons, g0, g1, t1, t6, t5, t8, t9, t11, t10, hc, Zfi hz, ixi, ixb, fxi, fxb, r1, r2, Zfh hlt]
      exact ⟨his, k57, _, rfl, B.less (by omega) hc (by rw [Int.toNat_natCast]; exact hlt)⟩
    · simp (maxSteps := 4000000) (disch := omega) only [Zq, evO, vbox, wr, Zeq, if_true, if_false, Nat.reduceEqDiff, Nat.reduceAdd, Nat.reduceLeDiff, Nat.reduceSub, and_self, and_true, true_and, reduceIte, reduceCtorEq, eq_self, implies_true, forall_const, false_implies, imp_self, decide_true, decide_false, fix_nil, fix_cons, g0, g1, t1, t6, t5, t8, t9, t11, t10, hc, Zfi hz, ixi, ixb, fxi, fxb, r1, r2, Zfi hlt]
      exact ⟨his, k57, _, rfl, B.stay hp his (by omega) (by rw [Int.toNat_natCast]; exact hlt)⟩
  obtain ⟨wc, hc, fc⟩ := trip_elK hr hin
  obtain ⟨b2, b12, _⟩ := tpOk_get (htp i hin)
  have hai := hal i hi
  have hall : allR l (i + 1) = allR l i ++ legsU i (tp l i).2 ((tp l i).2.length - 1) := rfl
  have ixw := fun H0 : Heap => slc_idx (r := rTrip) (H1 := H0) (sz := 2) (i := i) (k := .i64) rfl hr hin
  have fxw := fun (H0 : Heap) (o off : Nat) => slc_fad (r := rTrip) (H1 := H0) (sz := 2) (o := o) (off := off) rfl hr hin
  have lx : ∀ H : Heap, vlen H wc = some (.int .i64 (tp l i).2.length, H) := fun _ => slc_len hc
  have fcw := fun (H9 : Heap) (k : Keep H H9) => (fc H9 k).2.2
  clear fc
  generalize (tp l i).2 = cs at *
  simp (maxSteps := 4000000) (disch := omega) only [Zq, evO, vbox, wr, Zeq, if_true, if_false, Nat.reduceEqDiff, Nat.reduceAdd, Nat.reduceLeDiff, Nat.reduceSub, and_self, and_true, true_and, reduceIte, reduceCtorEq, eq_self, implies_true, forall_const, false_implies, imp_self, decide_true, decide_false, fix_nil, fix_cons, g0, g1, t1, t6, t5, lw]
  refine G_forF [1, 6] ((cs.length - 1)) (fun k T H5 => T 7 = .int .i64 ((k + 1 : Nat) : Int) ∧ Keep H0 H5 ∧ ∃ u, T 5 = u ∧ NewF runC 4 H0 H5 u (allR l i ++ legsU i cs k)) 0 (Nat.zero_le _) ?_ ?_
  · simp (maxSteps := 4000000) (disch := omega) only [Zq, evO, vbox, wr, Zeq, if_true, if_false, Nat.reduceEqDiff, Nat.reduceAdd, Nat.reduceLeDiff, Nat.reduceSub, and_self, and_true, true_and, reduceIte, reduceCtorEq, eq_self, implies_true, forall_const, false_implies, imp_self, decide_true, decide_false, fix_nil, fix_cons, g0, g1, t1, t6, t5]
    exact ⟨rfl, k3, _, rfl, by rw [show legsU i cs 0 = [] from rfl, List.append_nil]; exact o3⟩
  rintro k T H5 hk hT ⟨t7, k5, u5, t5, o5⟩
  simp only [fix_nil, fix_cons, Zq, evO, vbox, wr, Zeq, if_true, if_false, Nat.reduceEqDiff, Nat.reduceAdd, Nat.reduceLeDiff, Nat.reduceSub, and_self, and_true, true_and, reduceIte, reduceCtorEq, eq_self, implies_true, forall_const, false_implies, imp_self, decide_true, decide_false, t1, t6, t5] at hT
  obtain ⟨t1, t6⟩ := hT
  have k05 := k0.trans k5
  have fcx := fcw H5 k05
  by_cases hkn : k + 1 < cs.length
  rotate_left
  · obtain rfl : k = cs.length - 1 := by omega
    simp (maxSteps := 4000000) (disch := omega) only [Zq, evO, vbox, wr, Zeq, if_true, if_false, Nat.reduceEqDiff, Nat.reduceAdd, Nat.reduceLeDiff, Nat.reduceSub, and_self, and_true, true_and, reduceIte, reduceCtorEq, eq_self, implies_true, forall_const, false_implies, imp_self, decide_true, decide_false, fix_nil, fix_cons, g0, g1, t1, t6, t5, t7, ixw, fxw, fcx, lx]
    exact ⟨hin, k5, u5, rfl, by rw [hall]; exact o5⟩
  have hw : IntKind.i64.wrap (((k + 1 : Nat) : Int) - 1) = (k : Int) := by rw [wrap64 (by omega) (by omega)]; omega
  have ixp := fun H0 : Heap => slc_idx (r := rCall) (H1 := H0) (sz := 3) (i := k) (k := .i64) rfl hc (by omega)
  have ixq := fun H0 : Heap => slc_idx (r := rCall) (H1 := H0) (sz := 3) (i := k + 1) (k := .i64) rfl hc hkn
  have fxp := fun (H0 : Heap) (o off : Nat) => slc_fad (r := rCall) (H1 := H0) (sz := 3) (i := k) (o := o) (off := off) rfl hc (by omega)
  have fxq := fun (H0 : Heap) (o off : Nat) => slc_fad (r := rCall) (H1 := H0) (sz := 3) (i := k + 1) (o := o) (off := off) rfl hc hkn
  have e2 := call_el (i := k) ((rSlc rCall).rdk hc k05) (by omega)
  have e3 := call_el (i := k + 1) ((rSlc rCall).rdk hc k05) hkn
  obtain ⟨u6, H6, e6, o6, k6, n6⟩ := NewF.one (bytes := 32) (y := legF i cs k) runC_len (by omega) o5 (by rw [List.length_append, legsU_len]; omega)
  simp only [runC, legF] at e6
  simp (maxSteps := 4000000) (disch := omega) only [Zq, evO, vbox, wr, Zeq, if_true, if_false, Nat.reduceEqDiff, Nat.reduceAdd, Nat.reduceLeDiff, Nat.reduceSub, and_self, and_true, true_and, reduceIte, reduceCtorEq, eq_self, implies_true, forall_const, false_implies, imp_self, decide_true, decide_false, fix_nil, fix_cons, g0, g1, t1, t6, t5, t7, ixw, fxw, fcx, lx]
  refine G_tame rfl ?_
  simp (maxSteps := 4000000) (disch := omega) only [Zq, evO, vbox, wr, Zeq, if_true, if_false, Nat.reduceEqDiff, Nat.reduceAdd, Nat.reduceLeDiff, Nat.reduceSub, and_self, and_true, true_and, reduceIte, reduceCtorEq, eq_self, implies_true, forall_const, false_implies, imp_self, decide_true, decide_false, fix_nil, fix_cons, g0, g1, t1, t6, t5, t7, hw, ixw, fxw, fcx, ixp, ixq, fxp, fxq, e2, e3, e6]
  exact ⟨by omega, k6 _ (Nat.le_refl _) k5, u6, rfl, by rw [legsU_succ, ← List.append_assoc]; exact o6⟩
end
end Go.Proofs.Ytjjglonmaajjoaa.AX
