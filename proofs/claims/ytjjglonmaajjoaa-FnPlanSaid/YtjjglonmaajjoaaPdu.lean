/- How many trips are punctual: the two ways. No condition beyond each law's own; of the program: the functions' forms. -/
import Derived.Test.YtjjglonmaajjoaaPdt
namespace Go.Proofs.Ytjjglonmaajjoaa.AX
open Go
set_option maxRecDepth 10000
set_option maxHeartbeats 4000000
set_option linter.unusedSimpArgs false
set_option linter.unusedVariables false
def cntL (b : Int) (xs : List Int) : Nat := (xs.filter (fun m => decide (m ≤ b))).length
theorem cntL_take {b : Int} {xs : List Int} {j : Nat} (hj : j < xs.length) : cntL b (xs.take (j + 1)) = cntL b (xs.take j) + (if xs.getD j 0 ≤ b then 1 else 0) := by
  rw [cntL, take_snoc xs 0 hj, List.filter_append, List.length_append]
  show cntL b (xs.take j) + _ = _
  congr 1
  by_cases h : xs.getD j 0 ≤ b
  · rw [if_pos h, List.filter_cons_of_pos (by simpa using h)]; rfl
  · rw [if_neg h, List.filter_cons_of_neg (by simpa using h)]; rfl
theorem cntL_le (b : Int) (xs : List Int) (j : Nat) : cntL b (xs.take j) ≤ xs.length := by
  rw [cntL]
  refine Nat.le_trans (List.length_filter_le _ _) ?_
  rw [List.length_take]; omega
def punO (n : Int) (es : List Ed) (l : List Tp) (la : List Int) (b : Int) : Int := if dayOk n es l la = true then (cntL b (latL es l la) : Int) else -1
section
variable {H : Heap} {v w u : Value} {n : Int} {es : List Ed} {l : List Tp} {la : List Int} (b : Int)
theorem r_impl_Punctual (he : (rSlc rEdge).rd H [v] es) (hl : es.length ≤ 1048576) (hr : (rSlc rTrip).rd H [w] l) (ht : (rSlc rTrip).tot l ≤ 1048576) (hu : (rSlc rInt).rd H [u] la) (hul : la.length ≤ 1048576) : Run Try.prog 21 [.agg #[.int .i64 n, v], w, u, .int .i64 b] H fun r H' => Keep H H' ∧ r = .int .i64 (punO n es l la b) := by
  refine Run.intro c21 rfl ?_
  simp (maxSteps := 4000000) (disch := omega) only [Zq, evO, vbox, wr, Zeq, if_true, if_false, Nat.reduceEqDiff, Nat.reduceAdd, Nat.reduceLeDiff, Nat.reduceSub, and_self, and_true, true_and, reduceIte, reduceCtorEq, eq_self, implies_true, forall_const, false_implies, imp_self, decide_true, decide_false, x21]
  generalize hG0 : H.push [.int .i64 n, v] = H0
  have k0 : Keep H H0 := by rw [← hG0]; exact Keep.push _ _
  have g0 : H0.get H.nxt = some (.own [.int .i64 n, v]) := by rw [← hG0, push_get', if_pos rfl]
  have n0 : H0.nxt = H.nxt + 1 := by rw [← hG0, Zbg]
  refine GO_call ((r_impl_DayOk (n := n) ((rSlc rEdge).rdk he k0) hl ((rSlc rTrip).rdk hr k0) ht ((rSlc rInt).rdk hu k0) hul).mono ?_)
  rintro _ H1 ⟨k1, rfl⟩
  have n1 := k1.nxt
  have g1 := (k1.get (H.nxt) (by omega)).trans g0
  have k01 := k0.trans k1
  cases ok : dayOk n es l la with
  | false =>
    simp (maxSteps := 4000000) (disch := omega) only [Zq, evO, vbox, wr, Zeq, if_true, if_false, Nat.reduceEqDiff, Nat.reduceAdd, Nat.reduceLeDiff, Nat.reduceSub, and_self, and_true, true_and, reduceIte, reduceCtorEq, eq_self, implies_true, forall_const, false_implies, imp_self, decide_true, decide_false, fix_nil, fix_cons, g0, g1, ok]
    exact ⟨k01, by rw [punO, ok]; rfl⟩
  | true =>
  obtain ⟨d, rok⟩ := dy_of ok
  have l24 := d.d6
  simp (maxSteps := 4000000) (disch := omega) only [Zq, evO, vbox, wr, Zeq, if_true, if_false, Nat.reduceEqDiff, Nat.reduceAdd, Nat.reduceLeDiff, Nat.reduceSub, and_self, and_true, true_and, reduceIte, reduceCtorEq, eq_self, implies_true, forall_const, false_implies, imp_self, decide_true, decide_false, fix_nil, fix_cons, g0, g1, ok]
  refine GO_call ((r_impl_lateAt (n := n) d ((rSlc rEdge).rdk he k01) ((rSlc rTrip).rdk hr k01) ((rSlc rInt).rdk hu k01)).mono ?_)
  rintro z H2 ⟨k2, o2⟩
  have hll := latL_len (es := es) (l := l) (la := la)
  rw [punO, if_pos ok]
  generalize latL es l la = LL at o2 hll
  have hz : Ints H2 z LL := o2.intsK
  have lz := fun H1 : Heap => IntsK.len_ (H1 := H1) hz
  have k02 := k01.trans k2
  simp (maxSteps := 4000000) (disch := omega) only [Zq, evO, vbox, wr, Zeq, if_true, if_false, Nat.reduceEqDiff, Nat.reduceAdd, Nat.reduceLeDiff, Nat.reduceSub, and_self, and_true, true_and, reduceIte, reduceCtorEq, eq_self, implies_true, forall_const, false_implies, imp_self, decide_true, decide_false, fix_nil, fix_cons, g0, g1, lz]
  refine G_forF [3, 20, 21] (LL.length) (fun i T H3 => T 22 = .int .i64 (i : Int) ∧ T 9 = .int .i64 ((cntL b (LL.take i) : Nat) : Int) ∧ H3 = H2) 0 (Nat.zero_le _) ?_ ?_
  · simp (maxSteps := 4000000) (disch := omega) only [Zq, evO, vbox, wr, Zeq, if_true, if_false, Nat.reduceEqDiff, Nat.reduceAdd, Nat.reduceLeDiff, Nat.reduceSub, and_self, and_true, true_and, reduceIte, reduceCtorEq, eq_self, implies_true, forall_const, false_implies, imp_self, decide_true, decide_false, fix_nil, fix_cons, g0, g1]
    exact rfl
  rintro i T H3 hi hT ⟨t22, t9, rfl⟩
  simp only [fix_nil, fix_cons, Zq, evO, vbox, wr, Zeq, if_true, if_false, Nat.reduceEqDiff, Nat.reduceAdd, Nat.reduceLeDiff, Nat.reduceSub, and_self, and_true, true_and, reduceIte, reduceCtorEq, eq_self, implies_true, forall_const, false_implies, imp_self, decide_true, decide_false] at hT
  obtain ⟨t3, t20, t21⟩ := hT
  by_cases hin : i < LL.length
  rotate_left
  · obtain rfl : i = LL.length := by omega
    simp (maxSteps := 4000000) (disch := omega) only [Zq, evO, vbox, wr, Zeq, if_true, if_false, Nat.reduceEqDiff, Nat.reduceAdd, Nat.reduceLeDiff, Nat.reduceSub, and_self, and_true, true_and, reduceIte, reduceCtorEq, eq_self, implies_true, forall_const, false_implies, imp_self, decide_true, decide_false, fix_nil, fix_cons, g0, g1, t3, t20, t21, t22, t9]
    exact ⟨k02, by rw [List.take_length]⟩
  have ix := fun H0 : Heap => IntsK.idx (k' := .i64) (H1 := H0) hz hin
  have ld := IntsK.ld hz hin
  have hc := cntL_take (b := b) hin
  have hb := cntL_le b LL i
  by_cases c1 : LL.getD i 0 ≤ b
  · rw [if_pos c1] at hc
    simp (maxSteps := 4000000) (disch := omega) only [Zq, evO, vbox, wr, Zeq, if_true, if_false, Nat.reduceEqDiff, Nat.reduceAdd, Nat.reduceLeDiff, Nat.reduceSub, and_self, and_true, true_and, reduceIte, reduceCtorEq, eq_self, implies_true, forall_const, false_implies, imp_self, decide_true, decide_false, fix_nil, fix_cons, g0, g1, t3, t20, t21, t22, t9, ix, ld, Zfj c1]
    exact ⟨hin, by rw [hc]⟩
  · rw [if_neg c1] at hc
    simp (maxSteps := 4000000) (disch := omega) only [Zq, evO, vbox, wr, Zeq, if_true, if_false, Nat.reduceEqDiff, Nat.reduceAdd, Nat.reduceLeDiff, Nat.reduceSub, and_self, and_true, true_and, reduceIte, reduceCtorEq, eq_self, implies_true, forall_const, false_implies, imp_self, decide_true, decide_false, fix_nil, fix_cons, g0, g1, t3, t20, t21, t22, t9, ix, ld, Zfk c1]
    exact ⟨hin, by rw [hc, Nat.add_zero]⟩
end
end Go.Proofs.Ytjjglonmaajjoaa.AX
