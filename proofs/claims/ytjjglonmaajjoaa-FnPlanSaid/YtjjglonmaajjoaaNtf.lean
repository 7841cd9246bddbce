/- What is ridden; days that are right: the program's tests and the reference's. No condition beyond each law's own; of the program: the functions' forms. -/
import Derived.Test.YtjjglonmaajjoaaNte
namespace Go.Proofs.Ytjjglonmaajjoaa.AX
open Go
set_option maxRecDepth 10000
set_option maxHeartbeats 4000000
set_option linter.unusedSimpArgs false
set_option linter.unusedVariables false
theorem slc_elK {α : Type} {r : Rep α} {B : Heap} {v : Value} {xs : List α} {i sz : Nat} (hz : r.sz = sz) (h0 : 0 < sz) (h : (rSlc r).rd B [v] xs) (hi : i < xs.length) : ∃ row, r.rd B row xs[i] ∧ row.length = sz ∧ ∀ H, Keep B H → vldN H sz (adr v i sz 0) = some (.agg row.toArray, H) ∧ ∀ o c, row[o]? = some c → vld1 H (adr v i sz o) = some (c, H) := by
  obtain ⟨w, rows, e, h1, hr⟩ := h
  obtain rfl : v = w := by simpa using e
  obtain ⟨row, h2, h3⟩ := rows_get hr hi
  have hrow := flat_row hr.sz h2
  rw [hz] at hrow h1
  have hl : row.length = sz := by rw [r.len h3, hz]
  refine ⟨row, h3, hl, fun H k => ⟨?_, fun o c hc => ?_⟩⟩
  · have := Sl.ldN (o := 0) (m := sz) (h1.keep k) hi h0 (by omega)
    rwa [Nat.add_zero, hrow] at this
  · refine Sl.ld (h1.keep k) hi ?_
    have ho := (List.getElem?_eq_some_iff.1 hc).1
    exact row_get hrow (by omega) hc
theorem trip_elK {B : Heap} {v : Value} {l : List Tp} {i : Nat} (h : (rSlc rTrip).rd B [v] l) (hi : i < l.length) : ∃ w, (rSlc rCall).rd B [w] (tp l i).2 ∧ ∀ H, Keep B H → vldN H 2 (adr v i 2 0) = some (.agg #[.string (tp l i).1, w], H) ∧ vld1 H (adr v i 2 0) = some (.string (tp l i).1, H) ∧ vld1 H (adr v i 2 1) = some (w, H) := by
  obtain ⟨row, h1, _, h2⟩ := slc_elK (sz := 2) rfl (by omega) h hi
  obtain ⟨w, rfl, hw⟩ := trip_rd (x0 := l[i].1) (x1 := l[i].2) h1
  rw [tp, getD_get _ _ hi]
  exact ⟨w, hw, fun H k => ⟨(h2 H k).1, (h2 H k).2 0 _ rfl, (h2 H k).2 1 _ rfl⟩⟩
theorem tpOk_get {t : Tp} (h : tpOk t = true) : 2 ≤ t.2.length ∧ t.2.length ≤ 12 ∧ ∀ i, i < t.2.length → clOk t.2 i = true := by
  simp only [tpOk, Bool.and_eq_true, inR_iff, allTo_iff] at h
  exact ⟨by omega, by omega, h.2.2⟩
theorem clOk_get {l : List Cl} {i : Nat} (h : clOk l i = true) : (0 ≤ (cl l i).1 ∧ (cl l i).1 ≤ 29) ∧ (0 ≤ (cl l i).2.1 ∧ (cl l i).2.1 ≤ (cl l i).2.2) ∧ (cl l i).2.2 ≤ 100000 ∧ (0 < i → (cl l (i - 1)).2.2 < (cl l i).2.1 ∧ (cl l i).1 ≠ (cl l (i - 1)).1) := by
  simp only [clOk, clB, Bool.and_eq_true, inR_iff, Bool.not_eq_true', Bool.and_eq_false_iff, decide_eq_false_iff_not, Bool.or_eq_false_iff] at h
  refine ⟨h.1, h.2.2.1, h.2.1.2, fun h0 => ?_⟩
  rcases h.2.2.2 with h1 | h1
  · exact absurd h0 h1
  · exact ⟨by omega, h1.2⟩
theorem tbOk_get {l : List Tp} (h : tbOk l = true) : l.length ≤ 24 ∧ ∀ i, i < l.length → tpOk (tp l i) = true := by
  simp only [tbOk, tbRow, Bool.and_eq_true, decide_eq_true_eq, allTo_iff] at h
  exact ⟨h.1, fun i hi => (h.2 i hi).1⟩
theorem rd_bad {n : Int} {es : List Ed} {l : List Tp} {i : Nat} (hi : i < l.length) (h : rdTrip es (tp l i).2 = false) : ridden n es l = false := by
  rw [ridden, allTo_bad hi h, Bool.and_false, Bool.and_false]
section
variable {H : Heap} {v w : Value} {n : Int} {es : List Ed} {l : List Tp}
theorem r_impl_usesOfAll (he : (rSlc rEdge).rd H [v] es) (hl : es.length ≤ 1048576) (hr : (rSlc rTrip).rd H [w] l) (ht : (rSlc rTrip).tot l ≤ 1048576) : Run Try.prog 86 [.agg #[.int .i64 n, v], w] H fun r H' => Keep H H' ∧ ∃ u, r = .tuple #[u, .bool (ridden n es l)] := by
  have lw : ∀ H : Heap, vlen H w = some (.int .i64 l.length, H) := fun _ => slc_len hr
  refine Run.intro c86 rfl ?_
  simp (maxSteps := 4000000) (disch := omega) only [Zq, evO, vbox, wr, Zeq, if_true, if_false, Nat.reduceEqDiff, Nat.reduceAdd, Nat.reduceLeDiff, Nat.reduceSub, and_self, and_true, true_and, reduceIte, reduceCtorEq, eq_self, implies_true, forall_const, false_implies, imp_self, decide_true, decide_false, x86]
  generalize hG0 : H.push [.int .i64 n, v] = H0
  have k0 : Keep H H0 := by rw [← hG0]; exact Keep.push _ _
  have g0 : H0.get H.nxt = some (.own [.int .i64 n, v]) := by rw [← hG0, push_get', if_pos rfl]
  have n0 : H0.nxt = H.nxt + 1 := by rw [← hG0, Zbg]
  refine GO_call ((r_impl_NetOk (n := n) ((rSlc rEdge).rdk he k0) hl).mono ?_)
  rintro _ H1 ⟨k1, rfl⟩
  have n1 := k1.nxt
  have g1 := (k1.get (H.nxt) (by omega)).trans g0
  have k01 := k0.trans k1
  cases c0 : netOk n es with
  | false =>
    simp (maxSteps := 4000000) (disch := omega) only [Zq, evO, vbox, wr, Zeq, if_true, if_false, Nat.reduceEqDiff, Nat.reduceAdd, Nat.reduceLeDiff, Nat.reduceSub, and_self, and_true, true_and, reduceIte, reduceCtorEq, eq_self, implies_true, forall_const, false_implies, imp_self, decide_true, decide_false, fix_nil, fix_cons, g0, g1, c0]
    exact ⟨k01, _, by rw [ridden, c0]; rfl⟩
  | true =>
  simp (maxSteps := 4000000) (disch := omega) only [Zq, evO, vbox, wr, Zeq, if_true, if_false, Nat.reduceEqDiff, Nat.reduceAdd, Nat.reduceLeDiff, Nat.reduceSub, and_self, and_true, true_and, reduceIte, reduceCtorEq, eq_self, implies_true, forall_const, false_implies, imp_self, decide_true, decide_false, fix_nil, fix_cons, g0, g1, c0]
  refine GO_call ((r_impl_TableOk ((rSlc rTrip).rdk hr k01) ht).mono ?_)
  rintro _ H2 ⟨k2, rfl⟩
  have n2 := k2.nxt
  have g2 := (k2.get (H.nxt) (by omega)).trans g1
  have k02 := k01.trans k2
  cases c1 : tbOk l with
  | false =>
    simp (maxSteps := 4000000) (disch := omega) only [Zq, evO, vbox, wr, Zeq, if_true, if_false, Nat.reduceEqDiff, Nat.reduceAdd, Nat.reduceLeDiff, Nat.reduceSub, and_self, and_true, true_and, reduceIte, reduceCtorEq, eq_self, implies_true, forall_const, false_implies, imp_self, decide_true, decide_false, fix_nil, fix_cons, g0, g1, g2, c1]
    exact ⟨k02, _, by rw [ridden, c0, c1]; rfl⟩
  | true =>
  obtain ⟨l24, hok⟩ := tbOk_get c1
  simp (maxSteps := 4000000) (disch := omega) only [Zq, evO, vbox, wr, Zeq, if_true, if_false, Nat.reduceEqDiff, Nat.reduceAdd, Nat.reduceLeDiff, Nat.reduceSub, and_self, and_true, true_and, reduceIte, reduceCtorEq, eq_self, implies_true, forall_const, false_implies, imp_self, decide_true, decide_false, fix_nil, fix_cons, g0, g1, g2, c1, lw]
  have o0 : NewF useC 5 H2 (H2.push []) (.slice (some ⟨H2.nxt, 0, none⟩) 0 5) [] := NewF.new (Keep.refl _)
  have k3 : Keep H2 (H2.push []) := Keep.push _ _
  generalize H2.push [] = H3 at *
  refine G_forF [2, 20, 21] (l.length) (fun i T H4 => T 22 = .int .i64 (i : Int) ∧ Keep H2 H4 ∧ (∃ u ys, T 6 = u ∧ NewF useC 5 H2 H4 u ys ∧ ys.length ≤ 12 * i) ∧ ∀ j, j < i → rdTrip es (tp l j).2 = true) 0 (Nat.zero_le _) ?_ ?_
  · simp (maxSteps := 4000000) (disch := omega) only [Zq, evO, vbox, wr, Zeq, if_true, if_false, Nat.reduceEqDiff, Nat.reduceAdd, Nat.reduceLeDiff, Nat.reduceSub, and_self, and_true, true_and, reduceIte, reduceCtorEq, eq_self, implies_true, forall_const, false_implies, imp_self, decide_true, decide_false, fix_nil, fix_cons, g0, g1, g2]
    exact ⟨k3, ⟨_, [], rfl, o0, by simp⟩, fun j hj => by omega⟩
  rintro i T H4 hi hT ⟨t22, k4, ⟨u, ys, t6, o4, yl⟩, ha⟩
  simp only [fix_nil, fix_cons, Zq, evO, vbox, wr, Zeq, if_true, if_false, Nat.reduceEqDiff, Nat.reduceAdd, Nat.reduceLeDiff, Nat.reduceSub, and_self, and_true, true_and, reduceIte, reduceCtorEq, eq_self, implies_true, forall_const, false_implies, imp_self, decide_true, decide_false] at hT
  obtain ⟨t2, t20, t21⟩ := hT
  have k04 := k02.trans k4
  have n4 := k4.nxt
  have g4 := (k4.get H.nxt (by omega)).trans g2
  obtain ⟨u1, u2⟩ : vcells u = [u] ∧ noTup u = true := by
    obtain ⟨p, _, _, rfl, _⟩ := o4
    exact ⟨rfl, rfl⟩
  by_cases hin : i < l.length
  rotate_left
  · obtain rfl : i = l.length := by omega
    simp (maxSteps := 4000000) (disch := omega) only [Zq, evO, vbox, wr, Zeq, if_true, if_false, Nat.reduceEqDiff, Nat.reduceAdd, Nat.reduceLeDiff, Nat.reduceSub, and_self, and_true, true_and, reduceIte, reduceCtorEq, eq_self, implies_true, forall_const, false_implies, imp_self, decide_true, decide_false, fix_nil, fix_cons, g0, g1, g2, t2, t20, t21, t22, t6, g4, u2]
    exact ⟨k04, _, by rw [ridden, c0, c1, allTo_iff.2 ha]; rfl⟩
  have ixe := fun H0 : Heap => slc_idx (r := rTrip) (H1 := H0) (sz := 2) (i := i) (k := .i64) rfl hr hin
  obtain ⟨x, e1, _, _, hx⟩ := trip_el ((rSlc rTrip).rdk hr k04) hin
  obtain ⟨b2, b12, _⟩ := tpOk_get (hok i hin)
  simp (maxSteps := 4000000) (disch := omega) only [Zq, evO, vbox, wr, Zeq, if_true, if_false, Nat.reduceEqDiff, Nat.reduceAdd, Nat.reduceLeDiff, Nat.reduceSub, and_self, and_true, true_and, reduceIte, reduceCtorEq, eq_self, implies_true, forall_const, false_implies, imp_self, decide_true, decide_false, fix_nil, fix_cons, g0, g1, g2, t2, t20, t21, t22, t6, g4, ixe, e1]
  generalize hG5 : (H4.push [.string ⟨#[]⟩, .slice none 0 0]).set H4.nxt [.string (tp l i).1, x] = H5
  have k5 : Keep H4 H5 := by rw [← hG5]; repeat' (first | exact Keep.refl _ | assumption | refine Keep.push' ?_ | refine Keep.set' ?_ ?_ | refine Keep.moved' ?_ ?_ | omega)
  have g5 : H5.get H4.nxt = some (.own [.string (tp l i).1, x]) := by rw [← hG5, Zbi, if_pos rfl]
  have n5 : H5.nxt = H4.nxt + 1 := by rw [← hG5, Zbh, Zbg]
  have g5n := (k5.get H.nxt (by omega)).trans g4
  refine GO_call ((r_impl_usesOf (n := n) (s := (tp l i).1) ((rSlc rEdge).rdk he (k04.trans k5)) hl ((rSlc rCall).rdk hx k5) b2 b12 (i : Int)).mono ?_)
  rintro _ H6 ⟨k6, uu, rfl, hu⟩
  have n6 := k6.nxt
  have g6 := (k6.get (H.nxt) (by omega)).trans g5n
  have k46 := k5.trans k6
  cases c2 : rdTrip es (tp l i).2 with
  | false =>
    simp (maxSteps := 4000000) (disch := omega) only [Zq, evO, vbox, wr, Zeq, if_true, if_false, Nat.reduceEqDiff, Nat.reduceAdd, Nat.reduceLeDiff, Nat.reduceSub, and_self, and_true, true_and, reduceIte, reduceCtorEq, eq_self, implies_true, forall_const, false_implies, imp_self, decide_true, decide_false, fix_nil, fix_cons, g0, g1, g2, t2, t20, t21, t22, t6, g4, g5, g5n, g6, c2]
    exact ⟨k04.trans k46, _, by rw [rd_bad hin c2]⟩
  | true =>
  obtain ⟨zs, oz, zl⟩ := hu c2
  obtain ⟨u', H7, e7, o7, k7, n7⟩ := (o4.keep k46).app (bytes := 40) useC_len (by omega) (oz.sl useC_len) (by omega)
  simp (maxSteps := 4000000) (disch := omega) only [Zq, evO, vbox, wr, Zeq, if_true, if_false, Nat.reduceEqDiff, Nat.reduceAdd, Nat.reduceLeDiff, Nat.reduceSub, and_self, and_true, true_and, reduceIte, reduceCtorEq, eq_self, implies_true, forall_const, false_implies, imp_self, decide_true, decide_false, fix_nil, fix_cons, g0, g1, g2, t2, t20, t21, t22, t6, g4, g5, g5n, g6, c2, e7]
  exact ⟨hin, k7 _ (Nat.le_refl _) (k4.trans k46), ⟨u', _, rfl, o7, by simp; omega⟩, upto_succ ha c2⟩
theorem r_impl_Ridden (he : (rSlc rEdge).rd H [v] es) (hl : es.length ≤ 1048576) (hr : (rSlc rTrip).rd H [w] l) (ht : (rSlc rTrip).tot l ≤ 1048576) : Run Try.prog 56 [.agg #[.int .i64 n, v], w] H fun r H' => Keep H H' ∧ r = .bool (ridden n es l) := by
  refine Run.intro c56 rfl ?_
  simp (maxSteps := 4000000) (disch := omega) only [Zq, evO, vbox, wr, Zeq, if_true, if_false, Nat.reduceEqDiff, Nat.reduceAdd, Nat.reduceLeDiff, Nat.reduceSub, and_self, and_true, true_and, reduceIte, reduceCtorEq, eq_self, implies_true, forall_const, false_implies, imp_self, decide_true, decide_false, x56]
  generalize hG0 : H.push [.int .i64 n, v] = H0
  have k0 : Keep H H0 := by rw [← hG0]; exact Keep.push _ _
  have g0 : H0.get H.nxt = some (.own [.int .i64 n, v]) := by rw [← hG0, push_get', if_pos rfl]
  have n0 : H0.nxt = H.nxt + 1 := by rw [← hG0, Zbg]
  refine GO_call ((r_impl_usesOfAll (n := n) ((rSlc rEdge).rdk he k0) hl ((rSlc rTrip).rdk hr k0) ht).mono ?_)
  rintro _ H1 ⟨k1, u, rfl⟩
  have n1 := k1.nxt
  simp (maxSteps := 4000000) (disch := omega) only [Zq, evO, vbox, wr, Zeq, if_true, if_false, Nat.reduceEqDiff, Nat.reduceAdd, Nat.reduceLeDiff, Nat.reduceSub, and_self, and_true, true_and, reduceIte, reduceCtorEq, eq_self, implies_true, forall_const, false_implies, imp_self, decide_true, decide_false, fix_nil, fix_cons, g0]
  exact k0.trans k1
theorem r_spec_Ridden (he : (rSlc rEdge).rd H [v] es) (hl : es.length ≤ 1048576) (hr : (rSlc rTrip).rd H [w] l) (ht : (rSlc rTrip).tot l ≤ 1048576) : Run Try.prog 78 [.agg #[.int .i64 n, v], w] H fun r H' => Keep H H' ∧ r = .bool (ridden n es l) := by
  have lw : ∀ H : Heap, vlen H w = some (.int .i64 l.length, H) := fun _ => slc_len hr
  refine Run.intro c78 rfl ?_
  simp (maxSteps := 4000000) (disch := omega) only [Zq, evO, vbox, wr, Zeq, if_true, if_false, Nat.reduceEqDiff, Nat.reduceAdd, Nat.reduceLeDiff, Nat.reduceSub, and_self, and_true, true_and, reduceIte, reduceCtorEq, eq_self, implies_true, forall_const, false_implies, imp_self, decide_true, decide_false, x78]
  generalize hG0 : H.push [.int .i64 n, v] = H0
  have k0 : Keep H H0 := by rw [← hG0]; exact Keep.push _ _
  have g0 : H0.get H.nxt = some (.own [.int .i64 n, v]) := by rw [← hG0, push_get', if_pos rfl]
  have n0 : H0.nxt = H.nxt + 1 := by rw [← hG0, Zbg]
  refine GO_call ((r_spec_NetOk (n := n) ((rSlc rEdge).rdk he k0) hl).mono ?_)
  rintro _ H1 ⟨k1, rfl⟩
  have n1 := k1.nxt
  have g1 := (k1.get (H.nxt) (by omega)).trans g0
  have k01 := k0.trans k1
  cases c0 : netOk n es with
  | false =>
    simp (maxSteps := 4000000) (disch := omega) only [Zq, evO, vbox, wr, Zeq, if_true, if_false, Nat.reduceEqDiff, Nat.reduceAdd, Nat.reduceLeDiff, Nat.reduceSub, and_self, and_true, true_and, reduceIte, reduceCtorEq, eq_self, implies_true, forall_const, false_implies, imp_self, decide_true, decide_false, fix_nil, fix_cons, g0, g1, c0]
    exact ⟨k01, by rw [ridden, c0]; rfl⟩
  | true =>
  obtain ⟨_, _, _, hed⟩ := netOk_get c0
  simp (maxSteps := 4000000) (disch := omega) only [Zq, evO, vbox, wr, Zeq, if_true, if_false, Nat.reduceEqDiff, Nat.reduceAdd, Nat.reduceLeDiff, Nat.reduceSub, and_self, and_true, true_and, reduceIte, reduceCtorEq, eq_self, implies_true, forall_const, false_implies, imp_self, decide_true, decide_false, fix_nil, fix_cons, g0, g1, c0]
  refine GO_call ((r_spec_TableOk ((rSlc rTrip).rdk hr k01) ht).mono ?_)
  rintro _ H2 ⟨k2, rfl⟩
  have n2 := k2.nxt
  have g2 := (k2.get (H.nxt) (by omega)).trans g1
  have k02 := k01.trans k2
  cases c1 : tbOk l with
  | false =>
    simp (maxSteps := 4000000) (disch := omega) only [Zq, evO, vbox, wr, Zeq, if_true, if_false, Nat.reduceEqDiff, Nat.reduceAdd, Nat.reduceLeDiff, Nat.reduceSub, and_self, and_true, true_and, reduceIte, reduceCtorEq, eq_self, implies_true, forall_const, false_implies, imp_self, decide_true, decide_false, fix_nil, fix_cons, g0, g1, g2, c1]
    exact ⟨k02, by rw [ridden, c0, c1]; rfl⟩
  | true =>
  obtain ⟨l24, hok⟩ := tbOk_get c1
  simp (maxSteps := 4000000) (disch := omega) only [Zq, evO, vbox, wr, Zeq, if_true, if_false, Nat.reduceEqDiff, Nat.reduceAdd, Nat.reduceLeDiff, Nat.reduceSub, and_self, and_true, true_and, reduceIte, reduceCtorEq, eq_self, implies_true, forall_const, false_implies, imp_self, decide_true, decide_false, fix_nil, fix_cons, g0, g1, g2, c1, lw]
  refine G_forF [1, 2] (l.length) (fun i T H3 => T 5 = .int .i64 (i : Int) ∧ Keep H2 H3 ∧ ∀ j, j < i → rdTrip es (tp l j).2 = true) 0 (Nat.zero_le _) ?_ ?_
  · simp (maxSteps := 4000000) (disch := omega) only [Zq, evO, vbox, wr, Zeq, if_true, if_false, Nat.reduceEqDiff, Nat.reduceAdd, Nat.reduceLeDiff, Nat.reduceSub, and_self, and_true, true_and, reduceIte, reduceCtorEq, eq_self, implies_true, forall_const, false_implies, imp_self, decide_true, decide_false, fix_nil, fix_cons, g0, g1, g2]
    exact ⟨Keep.refl _, fun j hj => by omega⟩
  rintro i T H3 hi hT ⟨t5, k3, ha⟩
  simp only [fix_nil, fix_cons, Zq, evO, vbox, wr, Zeq, if_true, if_false, Nat.reduceEqDiff, Nat.reduceAdd, Nat.reduceLeDiff, Nat.reduceSub, and_self, and_true, true_and, reduceIte, reduceCtorEq, eq_self, implies_true, forall_const, false_implies, imp_self, decide_true, decide_false] at hT
  obtain ⟨t1, t2⟩ := hT
  have k03 := k02.trans k3
  have n3 := k3.nxt
  have g3 := (k3.get H.nxt (by omega)).trans g2
  by_cases hin : i < l.length
  rotate_left
  · obtain rfl : i = l.length := by omega
    simp (maxSteps := 4000000) (disch := omega) only [Zq, evO, vbox, wr, Zeq, if_true, if_false, Nat.reduceEqDiff, Nat.reduceAdd, Nat.reduceLeDiff, Nat.reduceSub, and_self, and_true, true_and, reduceIte, reduceCtorEq, eq_self, implies_true, forall_const, false_implies, imp_self, decide_true, decide_false, fix_nil, fix_cons, g0, g1, g2, t1, t2, t5, g3, lw]
    exact ⟨k03, by rw [ridden, c0, c1, allTo_iff.2 ha]; rfl⟩
  have ixe := fun H0 : Heap => slc_idx (r := rTrip) (H1 := H0) (sz := 2) (i := i) (k := .i64) rfl hr hin
  have fxe := fun (H0 : Heap) (o off : Nat) => slc_fad (r := rTrip) (H1 := H0) (sz := 2) (i := i) (o := o) (off := off) rfl hr hin
  obtain ⟨x, hx, ld⟩ := trip_elK hr hin
  obtain ⟨b2, b12, hcl⟩ := tpOk_get (hok i hin)
  have lx : ∀ H : Heap, vlen H x = some (.int .i64 (tp l i).2.length, H) := fun _ => slc_len hx
  simp (maxSteps := 4000000) (disch := omega) only [Zq, evO, vbox, wr, Zeq, if_true, if_false, Nat.reduceEqDiff, Nat.reduceAdd, Nat.reduceLeDiff, Nat.reduceSub, and_self, and_true, true_and, reduceIte, reduceCtorEq, eq_self, implies_true, forall_const, false_implies, imp_self, decide_true, decide_false, fix_nil, fix_cons, g0, g1, g2, t1, t2, t5, g3, lw]
  refine G_forF [1, 2, 5] (((tp l i).2.length - 1)) (fun k T H4 => T 6 = .int .i64 ((k + 1 : Nat) : Int) ∧ Keep H3 H4 ∧ ∀ j, j < k → rdLeg es (tp l i).2 j = true) 0 (Nat.zero_le _) ?_ ?_
  · simp (maxSteps := 4000000) (disch := omega) only [Zq, evO, vbox, wr, Zeq, if_true, if_false, Nat.reduceEqDiff, Nat.reduceAdd, Nat.reduceLeDiff, Nat.reduceSub, and_self, and_true, true_and, reduceIte, reduceCtorEq, eq_self, implies_true, forall_const, false_implies, imp_self, decide_true, decide_false, fix_nil, fix_cons, g0, g1, g2, t1, t2, t5, g3]
    exact ⟨rfl, Keep.refl _, fun j hj => by omega⟩
  rintro k T H4 hk hT ⟨t6, k4, hb⟩
  simp only [fix_nil, fix_cons, Zq, evO, vbox, wr, Zeq, if_true, if_false, Nat.reduceEqDiff, Nat.reduceAdd, Nat.reduceLeDiff, Nat.reduceSub, and_self, and_true, true_and, reduceIte, reduceCtorEq, eq_self, implies_true, forall_const, false_implies, imp_self, decide_true, decide_false, t1, t2, t5] at hT
  obtain ⟨t1, t2, t5⟩ := hT
  have n4 := k4.nxt
  have k04 := k03.trans k4
  have g4 := (k4.get H.nxt (by omega)).trans g3
  have e2 := (ld H4 k04).2.2
  by_cases hki : k + 1 < (tp l i).2.length
  rotate_left
  · obtain rfl : k = (tp l i).2.length - 1 := by omega
    simp (maxSteps := 4000000) (disch := omega) only [Zq, evO, vbox, wr, Zeq, if_true, if_false, Nat.reduceEqDiff, Nat.reduceAdd, Nat.reduceLeDiff, Nat.reduceSub, and_self, and_true, true_and, reduceIte, reduceCtorEq, eq_self, implies_true, forall_const, false_implies, imp_self, decide_true, decide_false, fix_nil, fix_cons, g0, g1, g2, t1, t2, t5, g3, t6, g4, ixe, fxe, e2, lx]
    exact ⟨hin, k3.trans k4, upto_succ ha (allTo_iff.2 hb)⟩
  have hw : IntKind.i64.wrap (((k + 1 : Nat) : Int) - 1) = (k : Int) := by rw [wrap64 (by omega) (by omega)]; omega
  have ixp := fun H0 : Heap => slc_idx (r := rCall) (H1 := H0) (sz := 3) (i := k) (k := .i64) rfl hx (by omega)
  have ixq := fun H0 : Heap => slc_idx (r := rCall) (H1 := H0) (sz := 3) (i := k + 1) (k := .i64) rfl hx hki
  have fxp := fun (H0 : Heap) (o off : Nat) => slc_fad (r := rCall) (H1 := H0) (sz := 3) (i := k) (o := o) (off := off) rfl hx (by omega)
  have fxq := fun (H0 : Heap) (o off : Nat) => slc_fad (r := rCall) (H1 := H0) (sz := 3) (i := k + 1) (o := o) (off := off) rfl hx hki
  have e3 := (call_el (i := k) ((rSlc rCall).rdk hx k04) (by omega)).2.1
  have e4 := (call_el (i := k + 1) ((rSlc rCall).rdk hx k04) hki).2.1
  have hleg : rdLeg es (tp l i).2 k = decide (0 ≤ jn es (cl (tp l i).2 k).1 (cl (tp l i).2 (k + 1)).1) := rfl
  have hb0 := (clOk_get (hcl (k + 1) hki)).1.1
  simp (maxSteps := 4000000) (disch := omega) only [Zq, evO, vbox, wr, Zeq, if_true, if_false, Nat.reduceEqDiff, Nat.reduceAdd, Nat.reduceLeDiff, Nat.reduceSub, and_self, and_true, true_and, reduceIte, reduceCtorEq, eq_self, implies_true, forall_const, false_implies, imp_self, decide_true, decide_false, fix_nil, fix_cons, g0, g1, g2, t1, t2, t5, g3, t6, g4, ixe, fxe, e2, lx]
  refine G_tame rfl ?_
  simp (maxSteps := 4000000) (disch := omega) only [Zq, evO, vbox, wr, Zeq, if_true, if_false, Nat.reduceEqDiff, Nat.reduceAdd, Nat.reduceLeDiff, Nat.reduceSub, and_self, and_true, true_and, reduceIte, reduceCtorEq, eq_self, implies_true, forall_const, false_implies, imp_self, decide_true, decide_false, fix_nil, fix_cons, g0, g1, g2, t1, t2, t5, g3, t6, g4, ixe, fxe, e2, hw, ixp, ixq, fxp, fxq, e3, e4]
  refine GO_call ((r_spec_l09Edge (n := n) ((rSlc rEdge).rdk he k04) hl hed hb0).mono ?_)
  rintro _ H5 ⟨k5, rfl⟩
  have n5 := k5.nxt
  have hjr := jn_range es (cl (tp l i).2 k).1 (cl (tp l i).2 (k + 1)).1
  generalize jn es (cl (tp l i).2 k).1 (cl (tp l i).2 (k + 1)).1 = z at hleg hjr
  by_cases c2 : z < 0
  · simp (maxSteps := 4000000) (disch := omega) only [Zq, evO, vbox, wr, Zeq, if_true, if_false, Nat.reduceEqDiff, Nat.reduceAdd, Nat.reduceLeDiff, Nat.reduceSub, and_self, and_true, true_and, reduceIte, reduceCtorEq, eq_self, implies_true, forall_const, false_implies, imp_self, decide_true, decide_false, fix_nil, fix_cons, g0, g1, g2, t1, t2, t5, g3, t6, g4, Zfh c2]
    exact ⟨k04.trans k5, by rw [rd_bad hin (allTo_bad (i := k) (by omega) (by rw [hleg, decide_eq_false (by omega)]))]⟩
  simp (maxSteps := 4000000) (disch := omega) only [Zq, evO, vbox, wr, Zeq, if_true, if_false, Nat.reduceEqDiff, Nat.reduceAdd, Nat.reduceLeDiff, Nat.reduceSub, and_self, and_true, true_and, reduceIte, reduceCtorEq, eq_self, implies_true, forall_const, false_implies, imp_self, decide_true, decide_false, fix_nil, fix_cons, g0, g1, g2, t1, t2, t5, g3, t6, g4, Zfi c2]
  exact ⟨by omega, k4.trans k5, upto_succ hb (by rw [hleg, decide_eq_true (by omega)])⟩
end
def dayOk (n : Int) (es : List Ed) (l : List Tp) (late : List Int) : Bool := ridden n es l && (decide (late.length = l.length) && allTo late.length (fun i => inR 0 10000 (late.getD i 0)))
section
variable {H : Heap} {v w u : Value} {n : Int} {es : List Ed} {l : List Tp} {late : List Int}
theorem r_impl_DayOk (he : (rSlc rEdge).rd H [v] es) (hl : es.length ≤ 1048576) (hr : (rSlc rTrip).rd H [w] l) (ht : (rSlc rTrip).tot l ≤ 1048576) (ha : (rSlc rInt).rd H [u] late) (hal : late.length ≤ 1048576) : Run Try.prog 24 [.agg #[.int .i64 n, v], w, u] H fun r H' => Keep H H' ∧ r = .bool (dayOk n es l late) := by
  have lw : ∀ H : Heap, vlen H w = some (.int .i64 l.length, H) := fun _ => slc_len hr
  have lu : ∀ H : Heap, vlen H u = some (.int .i64 late.length, H) := fun _ => slc_len ha
  have hll := tot_len ht
  refine Run.intro c24 rfl ?_
  simp (maxSteps := 4000000) (disch := omega) only [Zq, evO, vbox, wr, Zeq, if_true, if_false, Nat.reduceEqDiff, Nat.reduceAdd, Nat.reduceLeDiff, Nat.reduceSub, and_self, and_true, true_and, reduceIte, reduceCtorEq, eq_self, implies_true, forall_const, false_implies, imp_self, decide_true, decide_false, x24]
  generalize hG0 : H.push [.int .i64 n, v] = H0
  have k0 : Keep H H0 := by rw [← hG0]; exact Keep.push _ _
  have g0 : H0.get H.nxt = some (.own [.int .i64 n, v]) := by rw [← hG0, push_get', if_pos rfl]
  have n0 : H0.nxt = H.nxt + 1 := by rw [← hG0, Zbg]
  refine GO_call ((r_impl_Ridden (n := n) ((rSlc rEdge).rdk he k0) hl ((rSlc rTrip).rdk hr k0) ht).mono ?_)
  rintro _ H1 ⟨k1, rfl⟩
  have n1 := k1.nxt
  have k01 := k0.trans k1
  cases c0 : ridden n es l with
  | false =>
    simp (maxSteps := 4000000) (disch := omega) only [Zq, evO, vbox, wr, Zeq, if_true, if_false, Nat.reduceEqDiff, Nat.reduceAdd, Nat.reduceLeDiff, Nat.reduceSub, and_self, and_true, true_and, reduceIte, reduceCtorEq, eq_self, implies_true, forall_const, false_implies, imp_self, decide_true, decide_false, fix_nil, fix_cons, g0, c0]
    exact ⟨k01, by rw [dayOk, c0]; rfl⟩
  | true =>
  by_cases c1 : late.length = l.length
  rotate_left
  · simp (maxSteps := 4000000) (disch := omega) only [Zq, evO, vbox, wr, Zeq, if_true, if_false, Nat.reduceEqDiff, Nat.reduceAdd, Nat.reduceLeDiff, Nat.reduceSub, and_self, and_true, true_and, reduceIte, reduceCtorEq, eq_self, implies_true, forall_const, false_implies, imp_self, decide_true, decide_false, fix_nil, fix_cons, g0, c0, lw, lu]
    exact ⟨k01, by rw [dayOk, decide_eq_false c1]; simp⟩
  simp (maxSteps := 4000000) (disch := omega) only [Zq, evO, vbox, wr, Zeq, if_true, if_false, Nat.reduceEqDiff, Nat.reduceAdd, Nat.reduceLeDiff, Nat.reduceSub, and_self, and_true, true_and, reduceIte, reduceCtorEq, eq_self, implies_true, forall_const, false_implies, imp_self, decide_true, decide_false, fix_nil, fix_cons, g0, c0, lw, lu]
  refine G_forF [20, 21] (late.length) (fun i T H2 => T 22 = .int .i64 (i : Int) ∧ Keep H1 H2 ∧ ∀ j, j < i → inR 0 10000 (late.getD j 0) = true) 0 (Nat.zero_le _) ?_ ?_
  · simp (maxSteps := 4000000) (disch := omega) only [Zq, evO, vbox, wr, Zeq, if_true, if_false, Nat.reduceEqDiff, Nat.reduceAdd, Nat.reduceLeDiff, Nat.reduceSub, and_self, and_true, true_and, reduceIte, reduceCtorEq, eq_self, implies_true, forall_const, false_implies, imp_self, decide_true, decide_false, fix_nil, fix_cons, g0]
    exact ⟨Keep.refl _, fun j hj => by omega⟩
  rintro i T H2 hi hT ⟨t22, k2, hb⟩
  simp only [fix_nil, fix_cons, Zq, evO, vbox, wr, Zeq, if_true, if_false, Nat.reduceEqDiff, Nat.reduceAdd, Nat.reduceLeDiff, Nat.reduceSub, and_self, and_true, true_and, reduceIte, reduceCtorEq, eq_self, implies_true, forall_const, false_implies, imp_self, decide_true, decide_false] at hT
  obtain ⟨t20, t21⟩ := hT
  have k02 := k01.trans k2
  by_cases hin : i < late.length
  rotate_left
  · obtain rfl : i = late.length := by omega
    simp (maxSteps := 4000000) (disch := omega) only [Zq, evO, vbox, wr, Zeq, if_true, if_false, Nat.reduceEqDiff, Nat.reduceAdd, Nat.reduceLeDiff, Nat.reduceSub, and_self, and_true, true_and, reduceIte, reduceCtorEq, eq_self, implies_true, forall_const, false_implies, imp_self, decide_true, decide_false, fix_nil, fix_cons, g0, t20, t21, t22, lu]
    exact ⟨k02, by rw [dayOk, c0, decide_eq_true c1, allTo_iff.2 hb]; rfl⟩
  have hai := (ints_of ha).keep k02
  simp (maxSteps := 4000000) (disch := omega) only [Zq, evO, vbox, wr, Zeq, if_true, if_false, Nat.reduceEqDiff, Nat.reduceAdd, Nat.reduceLeDiff, Nat.reduceSub, and_self, and_true, true_and, reduceIte, reduceCtorEq, eq_self, implies_true, forall_const, false_implies, imp_self, decide_true, decide_false, fix_nil, fix_cons, g0, t20, t21, t22, lu, hai.idx hin, hai.ld hin]
  refine GO_call ((r_impl_between (late.getD i 0) 0 10000 _).mono ?_)
  rintro _ H3 ⟨k3, rfl⟩
  have n3 := k3.nxt
  cases c2 : inR 0 10000 (late.getD i 0) with
  | false =>
    simp (maxSteps := 4000000) (disch := omega) only [Zq, evO, vbox, wr, Zeq, if_true, if_false, Nat.reduceEqDiff, Nat.reduceAdd, Nat.reduceLeDiff, Nat.reduceSub, and_self, and_true, true_and, reduceIte, reduceCtorEq, eq_self, implies_true, forall_const, false_implies, imp_self, decide_true, decide_false, fix_nil, fix_cons, g0, t20, t21, t22, c2]
    exact ⟨k02.trans k3, by rw [dayOk, allTo_bad hin c2]; simp⟩
  | true =>
  simp (maxSteps := 4000000) (disch := omega) only [Zq, evO, vbox, wr, Zeq, if_true, if_false, Nat.reduceEqDiff, Nat.reduceAdd, Nat.reduceLeDiff, Nat.reduceSub, and_self, and_true, true_and, reduceIte, reduceCtorEq, eq_self, implies_true, forall_const, false_implies, imp_self, decide_true, decide_false, fix_nil, fix_cons, g0, t20, t21, t22, c2]
  exact ⟨hin, k2.trans k3, upto_succ hb c2⟩
theorem r_spec_DayOk (he : (rSlc rEdge).rd H [v] es) (hl : es.length ≤ 1048576) (hr : (rSlc rTrip).rd H [w] l) (ht : (rSlc rTrip).tot l ≤ 1048576) (ha : (rSlc rInt).rd H [u] late) (hal : late.length ≤ 1048576) : Run Try.prog 49 [.agg #[.int .i64 n, v], w, u] H fun r H' => Keep H H' ∧ r = .bool (dayOk n es l late) := by
  have lw : ∀ H : Heap, vlen H w = some (.int .i64 l.length, H) := fun _ => slc_len hr
  have lu : ∀ H : Heap, vlen H u = some (.int .i64 late.length, H) := fun _ => slc_len ha
  have hll := tot_len ht
  refine Run.intro c49 rfl ?_
  simp (maxSteps := 4000000) (disch := omega) only [Zq, evO, vbox, wr, Zeq, if_true, if_false, Nat.reduceEqDiff, Nat.reduceAdd, Nat.reduceLeDiff, Nat.reduceSub, and_self, and_true, true_and, reduceIte, reduceCtorEq, eq_self, implies_true, forall_const, false_implies, imp_self, decide_true, decide_false, x49]
  generalize hG0 : H.push [.int .i64 n, v] = H0
  have k0 : Keep H H0 := by rw [← hG0]; exact Keep.push _ _
  have g0 : H0.get H.nxt = some (.own [.int .i64 n, v]) := by rw [← hG0, push_get', if_pos rfl]
  have n0 : H0.nxt = H.nxt + 1 := by rw [← hG0, Zbg]
  refine GO_call ((r_spec_Ridden (n := n) ((rSlc rEdge).rdk he k0) hl ((rSlc rTrip).rdk hr k0) ht).mono ?_)
  rintro _ H1 ⟨k1, rfl⟩
  have n1 := k1.nxt
  have k01 := k0.trans k1
  cases c0 : ridden n es l with
  | false =>
    simp (maxSteps := 4000000) (disch := omega) only [Zq, evO, vbox, wr, Zeq, if_true, if_false, Nat.reduceEqDiff, Nat.reduceAdd, Nat.reduceLeDiff, Nat.reduceSub, and_self, and_true, true_and, reduceIte, reduceCtorEq, eq_self, implies_true, forall_const, false_implies, imp_self, decide_true, decide_false, fix_nil, fix_cons, g0, c0]
    exact ⟨k01, by rw [dayOk, c0]; rfl⟩
  | true =>
  by_cases c1 : late.length = l.length
  rotate_left
  · simp (maxSteps := 4000000) (disch := omega) only [Zq, evO, vbox, wr, Zeq, if_true, if_false, Nat.reduceEqDiff, Nat.reduceAdd, Nat.reduceLeDiff, Nat.reduceSub, and_self, and_true, true_and, reduceIte, reduceCtorEq, eq_self, implies_true, forall_const, false_implies, imp_self, decide_true, decide_false, fix_nil, fix_cons, g0, c0, lw, lu]
    exact ⟨k01, by rw [dayOk, decide_eq_false c1]; simp⟩
  simp (maxSteps := 4000000) (disch := omega) only [Zq, evO, vbox, wr, Zeq, if_true, if_false, Nat.reduceEqDiff, Nat.reduceAdd, Nat.reduceLeDiff, Nat.reduceSub, and_self, and_true, true_and, reduceIte, reduceCtorEq, eq_self, implies_true, forall_const, false_implies, imp_self, decide_true, decide_false, fix_nil, fix_cons, g0, c0, lw, lu]
  refine G_forF [2] (late.length) (fun i T H2 => T 7 = .int .i64 (i : Int) ∧ Keep H1 H2 ∧ ∀ j, j < i → inR 0 10000 (late.getD j 0) = true) 0 (Nat.zero_le _) ?_ ?_
  · simp (maxSteps := 4000000) (disch := omega) only [Zq, evO, vbox, wr, Zeq, if_true, if_false, Nat.reduceEqDiff, Nat.reduceAdd, Nat.reduceLeDiff, Nat.reduceSub, and_self, and_true, true_and, reduceIte, reduceCtorEq, eq_self, implies_true, forall_const, false_implies, imp_self, decide_true, decide_false, fix_nil, fix_cons, g0]
    exact ⟨Keep.refl _, fun j hj => by omega⟩
  rintro i T H2 hi hT ⟨t7, k2, hb⟩
  simp only [fix_nil, fix_cons, Zq, evO, vbox, wr, Zeq, if_true, if_false, Nat.reduceEqDiff, Nat.reduceAdd, Nat.reduceLeDiff, Nat.reduceSub, and_self, and_true, true_and, reduceIte, reduceCtorEq, eq_self, implies_true, forall_const, false_implies, imp_self, decide_true, decide_false] at hT
  have t2 := hT
  have k02 := k01.trans k2
  by_cases hin : i < late.length
  rotate_left
  · obtain rfl : i = late.length := by omega
    simp (maxSteps := 4000000) (disch := omega) only [Zq, evO, vbox, wr, Zeq, if_true, if_false, Nat.reduceEqDiff, Nat.reduceAdd, Nat.reduceLeDiff, Nat.reduceSub, and_self, and_true, true_and, reduceIte, reduceCtorEq, eq_self, implies_true, forall_const, false_implies, imp_self, decide_true, decide_false, fix_nil, fix_cons, g0, t2, t7, lu]
    exact ⟨k02, by rw [dayOk, c0, decide_eq_true c1, allTo_iff.2 hb]; rfl⟩
  have hai := (ints_of ha).keep k02
  simp (maxSteps := 4000000) (disch := omega) only [Zq, evO, vbox, wr, Zeq, if_true, if_false, Nat.reduceEqDiff, Nat.reduceAdd, Nat.reduceLeDiff, Nat.reduceSub, and_self, and_true, true_and, reduceIte, reduceCtorEq, eq_self, implies_true, forall_const, false_implies, imp_self, decide_true, decide_false, fix_nil, fix_cons, g0, t2, t7, lu, hai.idx hin, hai.ld hin]
  refine GO_call ((r_spec_l01In (late.getD i 0) 0 10000 _).mono ?_)
  rintro _ H3 ⟨k3, rfl⟩
  have n3 := k3.nxt
  cases c2 : inR 0 10000 (late.getD i 0) with
  | false =>
    simp (maxSteps := 4000000) (disch := omega) only [Zq, evO, vbox, wr, Zeq, if_true, if_false, Nat.reduceEqDiff, Nat.reduceAdd, Nat.reduceLeDiff, Nat.reduceSub, and_self, and_true, true_and, reduceIte, reduceCtorEq, eq_self, implies_true, forall_const, false_implies, imp_self, decide_true, decide_false, fix_nil, fix_cons, g0, t2, t7, c2]
    exact ⟨k02.trans k3, by rw [dayOk, allTo_bad hin c2]; simp⟩
  | true =>
  simp (maxSteps := 4000000) (disch := omega) only [Zq, evO, vbox, wr, Zeq, if_true, if_false, Nat.reduceEqDiff, Nat.reduceAdd, Nat.reduceLeDiff, Nat.reduceSub, and_self, and_true, true_and, reduceIte, reduceCtorEq, eq_self, implies_true, forall_const, false_implies, imp_self, decide_true, decide_false, fix_nil, fix_cons, g0, t2, t7, c2]
  exact ⟨hin, k2.trans k3, upto_succ hb c2⟩
end
end Go.Proofs.Ytjjglonmaajjoaa.AX
