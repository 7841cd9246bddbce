/- The program's day, from its first minute to its last. No condition beyond each law's own; of the program: the functions' forms. -/
import Derived.Test.YtjjglonmaajjoaaPdj
import Derived.Test.YtjjglonmaajjoaaPdk
import Derived.Test.YtjjglonmaajjoaaPdl
import Derived.Test.YtjjglonmaajjoaaPds
namespace Go.Proofs.Ytjjglonmaajjoaa.AX
open Go
set_option maxRecDepth 10000
set_option maxHeartbeats 4000000
set_option linter.unusedSimpArgs false
set_option linter.unusedVariables false
section
variable {H0 H : Heap} {v w u z : Value} {n : Int} {es : List Ed} {l : List Tp} {la : List Int} {S : Sd} {P : Ps} {q a b c t i k : Nat} {m : Int} {lo : Nat → Int}
/-- A player whose day is over. -/
def Played (H H' : Heap) (n : Int) (v w : Value) (es : List Ed) (l : List Tp) (la : List Int) (r : Value) : Prop := ∃ q a b c t P, r = ptr q 0 ∧ PH H H' n v w l.length es.length q a b c t P ∧ P.ps = pday es l la ∧ P.pw = wsum l la (pday es l la) (pday es l la)
theorem Played.base {H1 H2 : Heap} {r : Value} (h : Played H1 H2 n v w es l la r) (k : Keep H H1) : Played H H2 n v w es l la r := by
  obtain ⟨q, a, b, c, t, P, e, ph, h1, h2⟩ := h
  have kn := k.nxt
  obtain ⟨⟨q1, q2⟩, ⟨a1, a2⟩, ⟨b1, b2⟩, ⟨c1', c2'⟩, ⟨u1, u2⟩⟩ := ph.hn
  obtain ⟨R, F, f1, f2, f3, f4⟩ := ph.hq
  exact ⟨q, a, b, c, t, P, e, ⟨k.trans ph.hk, ⟨R, F, f1, f2, f3, fun x hx => by have := f4 x hx; exact ⟨by omega, this.2⟩⟩, ph.ha, ph.hb, ph.hc, ph.ht, ph.la, ph.lb, ph.lc, ph.lt, by omega, ph.hd⟩, h1, h2⟩
theorem r_play (d : Dy es l la) (he : (rSlc rEdge).rd H [v] es) (hr : (rSlc rTrip).rd H [w] l) (hu : (rSlc rInt).rd H [u] la) : Run Try.prog 60 [.agg #[.int .i64 n, v], w, u] H fun r' H' => Played H H' n v w es l la r' := by
  refine Run.intro c60 rfl ?_
  simp (maxSteps := 4000000) (disch := omega) only [Zq, evO, vbox, wr, Zeq, if_true, if_false, Nat.reduceEqDiff, Nat.reduceAdd, Nat.reduceLeDiff, Nat.reduceSub, and_self, and_true, true_and, reduceIte, reduceCtorEq, eq_self, implies_true, forall_const, false_implies, imp_self, decide_true, decide_false, x60]
  generalize hG1 : H.push [.int .i64 n, v] = H1
  have k1 : Keep H H1 := by rw [← hG1]; exact Keep.push _ _
  have g1 : H1.get H.nxt = some (.own [.int .i64 n, v]) := by rw [← hG1, push_get', if_pos rfl]
  have n1 : H1.nxt = H.nxt + 1 := by rw [← hG1, Zbg]
  refine GO_call ((r_newPlayer (n := n) d ((rSlc rEdge).rdk he k1) ((rSlc rTrip).rdk hr k1) ((rSlc rInt).rdk hu k1)).mono ?_)
  rintro _ H2 ⟨q, a, b, c, t, P, rfl, ph2, jm⟩
  have he1 := (rSlc rEdge).rdk he k1
  have hr1 := (rSlc rTrip).rdk hr k1
  simp (maxSteps := 4000000) (disch := omega) only [Zq, evO, vbox, wr, Zeq, if_true, if_false, Nat.reduceEqDiff, Nat.reduceAdd, Nat.reduceLeDiff, Nat.reduceSub, and_self, and_true, true_and, reduceIte, reduceCtorEq, eq_self, implies_true, forall_const, false_implies, imp_self, decide_true, decide_false, fix_nil, fix_cons, g1]
  refine GO_call ((r_next (m := -1) d ph2 hr1 (Int.le_refl _)).mono ?_)
  rintro _ H3 ⟨k3, rfl⟩
  have n3 := k3.nxt
  simp (maxSteps := 4000000) (disch := omega) only [Zq, evO, vbox, wr, Zeq, if_true, if_false, Nat.reduceEqDiff, Nat.reduceAdd, Nat.reduceLeDiff, Nat.reduceSub, and_self, and_true, true_and, reduceIte, reduceCtorEq, eq_self, implies_true, forall_const, false_implies, imp_self, decide_true, decide_false, fix_nil, fix_cons, g1]
  refine G_loopF [7] ((27000001)) (fun k T Hk => ∃ (m : Int) (P : Ps), T 8 = .int .i64 (nxT l m P l.length) ∧ PH H1 Hk n v w l.length es.length q a b c t P ∧ Jm es l la m P ∧ -1 ≤ m ∧ m ≤ 27000000 ∧ k = (27000000 - m).toNat) ?_ ?_
  · simp (maxSteps := 4000000) (disch := omega) only [Zq, evO, vbox, wr, Zeq, if_true, if_false, Nat.reduceEqDiff, Nat.reduceAdd, Nat.reduceLeDiff, Nat.reduceSub, and_self, and_true, true_and, reduceIte, reduceCtorEq, eq_self, implies_true, forall_const, false_implies, imp_self, decide_true, decide_false, fix_nil, fix_cons, g1]
    exact ⟨-1, P, rfl, ph2.keep k3, jm, by omega, by omega, rfl⟩
  rintro k T Hk hT ⟨m, P, t8, ph4, jm, m1, m2, hk⟩
  simp only [fix_nil, fix_cons, Zq, evO, vbox, wr, Zeq, if_true, if_false, Nat.reduceEqDiff, Nat.reduceAdd, Nat.reduceLeDiff, Nat.reduceSub, and_self, and_true, true_and, reduceIte, reduceCtorEq, eq_self, implies_true, forall_const, false_implies, imp_self, decide_true, decide_false] at hT
  have t7 := hT
  by_cases c1 : 0 ≤ nxT l m P l.length
  rotate_left
  · simp (maxSteps := 4000000) (disch := omega) only [Zq, evO, vbox, wr, Zeq, if_true, if_false, Nat.reduceEqDiff, Nat.reduceAdd, Nat.reduceLeDiff, Nat.reduceSub, and_self, and_true, true_and, reduceIte, reduceCtorEq, eq_self, implies_true, forall_const, false_implies, imp_self, decide_true, decide_false, fix_nil, fix_cons, g1, t7, t8, Zfk c1]
    obtain ⟨s1, s2⟩ := jm.stop d m1 (by omega)
    exact Played.base (H1 := H1) ⟨q, a, b, c, t, P, rfl, ph4, s1, s2⟩ k1
  obtain ⟨x1, x2, S, ja, jc⟩ := jm.arrs d m1 rfl c1
  generalize hm' : nxT l m P l.length = m' at *
  simp (maxSteps := 4000000) (disch := omega) only [Zq, evO, vbox, wr, Zeq, if_true, if_false, Nat.reduceEqDiff, Nat.reduceAdd, Nat.reduceLeDiff, Nat.reduceSub, and_self, and_true, true_and, reduceIte, reduceCtorEq, eq_self, implies_true, forall_const, false_implies, imp_self, decide_true, decide_false, fix_nil, fix_cons, g1, t7, t8, Zfj c1]
  refine GO_call ((r_arrive d ph4 he1 hr1 c1 x2 ja).mono ?_)
  rintro _ H5 ph5
  obtain ⟨jl, jm'⟩ := Jm.step d c1 (ja l.length (Nat.le_refl _)) jc
  simp (maxSteps := 4000000) (disch := omega) only [Zq, evO, vbox, wr, Zeq, if_true, if_false, Nat.reduceEqDiff, Nat.reduceAdd, Nat.reduceLeDiff, Nat.reduceSub, and_self, and_true, true_and, reduceIte, reduceCtorEq, eq_self, implies_true, forall_const, false_implies, imp_self, decide_true, decide_false, fix_nil, fix_cons, g1, t7, t8]
  refine GO_call ((r_leave d ph5 he1 hr1 c1 x2 jl).mono ?_)
  rintro _ H6 ph6
  simp (maxSteps := 4000000) (disch := omega) only [Zq, evO, vbox, wr, Zeq, if_true, if_false, Nat.reduceEqDiff, Nat.reduceAdd, Nat.reduceLeDiff, Nat.reduceSub, and_self, and_true, true_and, reduceIte, reduceCtorEq, eq_self, implies_true, forall_const, false_implies, imp_self, decide_true, decide_false, fix_nil, fix_cons, g1, t7, t8]
  refine GO_call ((r_next (m := m') d ph6 hr1 (by omega)).mono ?_)
  rintro _ H7 ⟨k7, rfl⟩
  have n7 := k7.nxt
  simp (maxSteps := 4000000) (disch := omega) only [Zq, evO, vbox, wr, Zeq, if_true, if_false, Nat.reduceEqDiff, Nat.reduceAdd, Nat.reduceLeDiff, Nat.reduceSub, and_self, and_true, true_and, reduceIte, reduceCtorEq, eq_self, implies_true, forall_const, false_implies, imp_self, decide_true, decide_false, fix_nil, fix_cons, g1, t7, t8]
  exact ⟨(27000000 - m').toNat, by omega, m', _, rfl, ph6.keep k7, jm', by omega, x2, rfl⟩
theorem Played.lt {H' : Heap} {q : Nat} (h : Played H H' n v w es l la (ptr q 0)) : q < H'.nxt := by
  obtain ⟨q', a, b, c, t, P, e, ph, h1, h2⟩ := h
  have e' : q = q' := by simpa [ptr] using e
  rw [e']
  exact ph.hn.1.2
theorem Played.runs {H' : Heap} {r : Value} (h : Played H H' n v w es l la r) : ∃ q R A B C D, r = ptr q 0 ∧ H.nxt ≤ q ∧ H'.get q = some (.own [.int .i64 n, v, w, A, B, C, D, R, .int .i64 (wsum l la (pday es l la) (pday es l la))]) ∧ Keep H H' ∧ OwnS rRun H H' R (pday es l la) := by
  obtain ⟨q, a, b, c, t, P, e, ph, h1, h2⟩ := h
  obtain ⟨R, F, f1, f2, f3, f4⟩ := ph.hq
  rw [plC, h2] at f1
  rw [h1] at f2
  exact ⟨q, R, _, _, _, _, e, ph.hn.1.1, f1, ph.hk, F, f2, f3, fun x hx => ⟨(f4 x hx).1, (f4 x hx).2.1⟩⟩
theorem r_impl_PlayDay (he : (rSlc rEdge).rd H [v] es) (hl : es.length ≤ 1048576) (hr : (rSlc rTrip).rd H [w] l) (ht : (rSlc rTrip).tot l ≤ 1048576) (hu : (rSlc rInt).rd H [u] la) (hul : la.length ≤ 1048576) : Run Try.prog 17 [.agg #[.int .i64 n, v], w, u] H fun r H' => Keep H H' ∧ OwnS rRun H H' r (noOr (dayOk n es l la) (pday es l la)) := by
  refine Run.intro c17 rfl ?_
  simp (maxSteps := 4000000) (disch := omega) only [Zq, evO, vbox, wr, Zeq, if_true, if_false, Nat.reduceEqDiff, Nat.reduceAdd, Nat.reduceLeDiff, Nat.reduceSub, and_self, and_true, true_and, reduceIte, reduceCtorEq, eq_self, implies_true, forall_const, false_implies, imp_self, decide_true, decide_false, x17]
  generalize hG0 : H.push [.int .i64 n, v] = H0
  have k0 : Keep H H0 := by rw [← hG0]; exact Keep.push _ _
  have g0 : H0.get H.nxt = some (.own [.int .i64 n, v]) := by rw [← hG0, push_get', if_pos rfl]
  have n0 : H0.nxt = H.nxt + 1 := by rw [← hG0, Zbg]
  refine GO_call ((r_impl_DayOk (n := n) ((rSlc rEdge).rdk he k0) hl ((rSlc rTrip).rdk hr k0) ht ((rSlc rInt).rdk hu k0) hul).mono ?_)
  rintro _ H1 ⟨k1, rfl⟩
  have n1 := k1.nxt
  have g1 := (k1.get (H.nxt) (by omega)).trans g0
  have k01 := k0.trans k1
  cases ok : dayOk n es l la with
  | false =>
    simp (maxSteps := 4000000) (disch := omega) only [Zq, evO, vbox, wr, Zeq, if_true, if_false, Nat.reduceEqDiff, Nat.reduceAdd, Nat.reduceLeDiff, Nat.reduceSub, and_self, and_true, true_and, reduceIte, reduceCtorEq, eq_self, implies_true, forall_const, false_implies, imp_self, decide_true, decide_false, fix_nil, fix_cons, g0, g1, ok]
    exact ⟨k01, own_nil⟩
  | true =>
  obtain ⟨d, rok⟩ := dy_of ok
  simp (maxSteps := 4000000) (disch := omega) only [Zq, evO, vbox, wr, Zeq, if_true, if_false, Nat.reduceEqDiff, Nat.reduceAdd, Nat.reduceLeDiff, Nat.reduceSub, and_self, and_true, true_and, reduceIte, reduceCtorEq, eq_self, implies_true, forall_const, false_implies, imp_self, decide_true, decide_false, fix_nil, fix_cons, g0, g1, ok]
  refine GO_call ((r_play (n := n) d ((rSlc rEdge).rdk he k01) ((rSlc rTrip).rdk hr k01) ((rSlc rInt).rdk hu k01)).mono ?_)
  rintro r2 H2 hp
  obtain ⟨q, R, A, B, C, D, rfl, hq, g2, k2, F, hF, fF⟩ := hp.runs
  have k1n := k01.nxt
  obtain ⟨x1, x2⟩ := slc_cell ((rSlc rRun).ownrd hF)
  simp (maxSteps := 4000000) (disch := omega) only [Zq, evO, vbox, wr, Zeq, if_true, if_false, Nat.reduceEqDiff, Nat.reduceAdd, Nat.reduceLeDiff, Nat.reduceSub, and_self, and_true, true_and, reduceIte, reduceCtorEq, eq_self, implies_true, forall_const, false_implies, imp_self, decide_true, decide_false, fix_nil, fix_cons, g0, g1, g2, g2, x1, x2]
  exact ⟨k01.trans k2, F, by rw [noOr, if_pos rfl]; exact hF, fF.1, fun i hi => by have := fF.2 i hi; omega⟩
end
end Go.Proofs.Ytjjglonmaajjoaa.AX
