/- Nets, names and trips that are right: the program's tests and the reference's. No condition beyond each law's own; of the program: the functions' forms. -/
import Derived.Test.YtjjglonmaajjoaaBse
import Derived.Test.YtjjglonmaajjoaaRtrip
namespace Go.Proofs.Ytjjglonmaajjoaa.AX
open Go
set_option maxRecDepth 10000
set_option maxHeartbeats 4000000
set_option linter.unusedSimpArgs false
set_option linter.unusedVariables false
abbrev Ed := Int × Int × Int × Int
abbrev Cl := Int × Int × Int
abbrev Tp := ByteArray × List Cl
def ed (l : List Ed) (i : Nat) : Ed := l.getD i (0, 0, 0, 0)
def cl (l : List Cl) (i : Nat) : Cl := l.getD i (0, 0, 0)
def tp (l : List Tp) (i : Nat) : Tp := l.getD i (.empty, [])
theorem edge_el {H : Heap} {v : Value} {l : List Ed} {i : Nat} (h : (rSlc rEdge).rd H [v] l) (hi : i < l.length) : vldN H 4 (adr v i 4 0) = some (.agg #[.int .i64 (ed l i).1, .int .i64 (ed l i).2.1, .int .i64 (ed l i).2.2.1, .int .i64 (ed l i).2.2.2], H) := by
  obtain ⟨row, h1, _, h2, h3⟩ := slc_el (sz := 4) rfl (by omega) h hi
  have e : row = [.int .i64 l[i].1, .int .i64 l[i].2.1, .int .i64 l[i].2.2.1, .int .i64 l[i].2.2.2] := h1
  subst e
  rw [ed, getD_get _ _ hi]
  exact h2
theorem call_el {H : Heap} {v : Value} {l : List Cl} {i : Nat} (h : (rSlc rCall).rd H [v] l) (hi : i < l.length) : vldN H 3 (adr v i 3 0) = some (.agg #[.int .i64 (cl l i).1, .int .i64 (cl l i).2.1, .int .i64 (cl l i).2.2], H) ∧ vld1 H (adr v i 3 0) = some (.int .i64 (cl l i).1, H) ∧ vld1 H (adr v i 3 1) = some (.int .i64 (cl l i).2.1, H) ∧ vld1 H (adr v i 3 2) = some (.int .i64 (cl l i).2.2, H) := by
  obtain ⟨row, h1, _, h2, h3⟩ := slc_el (sz := 3) rfl (by omega) h hi
  have e : row = [.int .i64 l[i].1, .int .i64 l[i].2.1, .int .i64 l[i].2.2] := h1
  subst e
  rw [cl, getD_get _ _ hi]
  exact ⟨h2, h3 0 _ rfl, h3 1 _ rfl, h3 2 _ rfl⟩
theorem trip_el {H : Heap} {v : Value} {l : List Tp} {i : Nat} (h : (rSlc rTrip).rd H [v] l) (hi : i < l.length) : ∃ w, vldN H 2 (adr v i 2 0) = some (.agg #[.string (tp l i).1, w], H) ∧ vld1 H (adr v i 2 0) = some (.string (tp l i).1, H) ∧ vld1 H (adr v i 2 1) = some (w, H) ∧ (rSlc rCall).rd H [w] (tp l i).2 := by
  obtain ⟨row, h1, _, h2, h3⟩ := slc_el (sz := 2) rfl (by omega) h hi
  obtain ⟨w, rfl, hw⟩ := trip_rd (x0 := l[i].1) (x1 := l[i].2) h1
  rw [tp, getD_get _ _ hi]
  exact ⟨w, h2, h3 0 _ rfl, h3 1 _ rfl, hw⟩
/-! ### Nets -/
def edOk (n : Int) (e : Ed) : Bool := inR 0 (n - 1) e.1 && (inR 0 (n - 1) e.2.1 && (!(decide (e.1 = e.2.1)) && (inR 1 100000 e.2.2.1 && inR 1 90 e.2.2.2)))
def netOk (n : Int) (es : List Ed) : Bool := inR 1 30 n && (decide (es.length ≤ 60) && allTo es.length (fun i => edOk n (ed es i)))
theorem netOk_get {n : Int} {es : List Ed} (h : netOk n es = true) : 1 ≤ n ∧ n ≤ 30 ∧ es.length ≤ 60 ∧ ∀ i, i < es.length → edOk n (ed es i) = true := by
  simp only [netOk, Bool.and_eq_true, inR_iff, decide_eq_true_eq, allTo_iff] at h
  exact ⟨h.1.1, h.1.2, h.2.1, h.2.2⟩
theorem netOk_bad {n : Int} {es : List Ed} {i : Nat} (hi : i < es.length) (h : edOk n (ed es i) = false) : netOk n es = false := by
  rw [netOk, allTo_bad hi h, Bool.and_false, Bool.and_false]
section
variable {H : Heap} {v : Value} {n : Int} {es : List Ed}
theorem r_impl_node (x : Int) (hn : -9223372036854775808 ≤ n - 1) (hn' : n ≤ 9223372036854775807) : Run Try.prog 117 [.agg #[.int .i64 n, v], .int .i64 x] H fun r H' => Keep H H' ∧ r = .bool (inR 0 (n - 1) x) := by
  have hw : IntKind.i64.wrap (n - 1) = n - 1 := wrap64 (by omega) (by omega)
  refine Run.intro c117 rfl ?_
  simp (maxSteps := 4000000) (disch := omega) only [Zq, evO, vbox, wr, Zeq, if_true, if_false, Nat.reduceEqDiff, Nat.reduceAdd, Nat.reduceLeDiff, Nat.reduceSub, and_self, and_true, true_and, reduceIte, reduceCtorEq, eq_self, implies_true, forall_const, false_implies, imp_self, decide_true, decide_false, x117, hw]
  generalize hG0 : H.push [.int .i64 n, v] = H0
  have k0 : Keep H H0 := by rw [← hG0]; exact Keep.push _ _
  have g0 : H0.get H.nxt = some (.own [.int .i64 n, v]) := by rw [← hG0, push_get', if_pos rfl]
  have n0 : H0.nxt = H.nxt + 1 := by rw [← hG0, Zbg]
  refine GO_call ((r_impl_between x 0 (n - 1) _).mono ?_)
  rintro _ H1 ⟨k1, rfl⟩
  have n1 := k1.nxt
  simp (maxSteps := 4000000) (disch := omega) only [Zq, evO, vbox, wr, Zeq, if_true, if_false, Nat.reduceEqDiff, Nat.reduceAdd, Nat.reduceLeDiff, Nat.reduceSub, and_self, and_true, true_and, reduceIte, reduceCtorEq, eq_self, implies_true, forall_const, false_implies, imp_self, decide_true, decide_false, fix_nil, fix_cons, g0]
  exact k0.trans k1
theorem r_impl_NetOk (he : (rSlc rEdge).rd H [v] es) (hl : es.length ≤ 1048576) : Run Try.prog 105 [.agg #[.int .i64 n, v]] H fun r H' => Keep H H' ∧ r = .bool (netOk n es) := by
  have lv : ∀ H : Heap, vlen H v = some (.int .i64 es.length, H) := fun _ => slc_len he
  refine Run.intro c105 rfl ?_
  simp (maxSteps := 4000000) (disch := omega) only [Zq, evO, vbox, wr, Zeq, if_true, if_false, Nat.reduceEqDiff, Nat.reduceAdd, Nat.reduceLeDiff, Nat.reduceSub, and_self, and_true, true_and, reduceIte, reduceCtorEq, eq_self, implies_true, forall_const, false_implies, imp_self, decide_true, decide_false, x105]
  generalize hG0 : H.push [.int .i64 n, v] = H0
  have k0 : Keep H H0 := by rw [← hG0]; exact Keep.push _ _
  have g0 : H0.get H.nxt = some (.own [.int .i64 n, v]) := by rw [← hG0, push_get', if_pos rfl]
  have n0 : H0.nxt = H.nxt + 1 := by rw [← hG0, Zbg]
  refine GO_call ((r_impl_between n 1 30 _).mono ?_)
  rintro _ H1 ⟨k1, rfl⟩
  have n1 := k1.nxt
  have g1 := (k1.get (H.nxt) (by omega)).trans g0
  cases c0 : inR 1 30 n with
  | false =>
    simp (maxSteps := 4000000) (disch := omega) only [Zq, evO, vbox, wr, Zeq, if_true, if_false, Nat.reduceEqDiff, Nat.reduceAdd, Nat.reduceLeDiff, Nat.reduceSub, and_self, and_true, true_and, reduceIte, reduceCtorEq, eq_self, implies_true, forall_const, false_implies, imp_self, decide_true, decide_false, fix_nil, fix_cons, g0, g1, c0]
    exact ⟨k0.trans k1, by rw [netOk, c0]; rfl⟩
  | true =>
  have n30 := inR_iff.1 c0
  by_cases c1 : es.length ≤ 60
  rotate_left
  · simp (maxSteps := 4000000) (disch := omega) only [Zq, evO, vbox, wr, Zeq, if_true, if_false, Nat.reduceEqDiff, Nat.reduceAdd, Nat.reduceLeDiff, Nat.reduceSub, and_self, and_true, true_and, reduceIte, reduceCtorEq, eq_self, implies_true, forall_const, false_implies, imp_self, decide_true, decide_false, fix_nil, fix_cons, g0, g1, c0, lv]
    exact ⟨k0.trans k1, by rw [netOk, decide_eq_false c1, Bool.false_and, Bool.and_false]⟩
  have k01 := k0.trans k1
  simp (maxSteps := 4000000) (disch := omega) only [Zq, evO, vbox, wr, Zeq, if_true, if_false, Nat.reduceEqDiff, Nat.reduceAdd, Nat.reduceLeDiff, Nat.reduceSub, and_self, and_true, true_and, reduceIte, reduceCtorEq, eq_self, implies_true, forall_const, false_implies, imp_self, decide_true, decide_false, fix_nil, fix_cons, g0, g1, c0, lv]
  refine G_forF [1, 16, 17] (es.length) (fun i T H2 => T 18 = .int .i64 (i : Int) ∧ Keep H1 H2 ∧ ∀ j, j < i → edOk n (ed es j) = true) 0 (Nat.zero_le _) ?_ ?_
  · simp (maxSteps := 4000000) (disch := omega) only [Zq, evO, vbox, wr, Zeq, if_true, if_false, Nat.reduceEqDiff, Nat.reduceAdd, Nat.reduceLeDiff, Nat.reduceSub, and_self, and_true, true_and, reduceIte, reduceCtorEq, eq_self, implies_true, forall_const, false_implies, imp_self, decide_true, decide_false, fix_nil, fix_cons, g0, g1]
    exact ⟨Keep.refl _, fun j hj => by omega⟩
  rintro i T H2 hi hT ⟨t18, k2, ha⟩
  simp only [fix_nil, fix_cons, Zq, evO, vbox, wr, Zeq, if_true, if_false, Nat.reduceEqDiff, Nat.reduceAdd, Nat.reduceLeDiff, Nat.reduceSub, and_self, and_true, true_and, reduceIte, reduceCtorEq, eq_self, implies_true, forall_const, false_implies, imp_self, decide_true, decide_false] at hT
  obtain ⟨t1, t16, t17⟩ := hT
  have n2 := k2.nxt
  have g2 := (k2.get H.nxt (by omega)).trans g1
  have k02 := k01.trans k2
  by_cases hin : i < es.length
  rotate_left
  · obtain rfl : i = es.length := by omega
    simp (maxSteps := 4000000) (disch := omega) only [Zq, evO, vbox, wr, Zeq, if_true, if_false, Nat.reduceEqDiff, Nat.reduceAdd, Nat.reduceLeDiff, Nat.reduceSub, and_self, and_true, true_and, reduceIte, reduceCtorEq, eq_self, implies_true, forall_const, false_implies, imp_self, decide_true, decide_false, fix_nil, fix_cons, g0, g1, t1, t16, t17, t18, g2]
    exact ⟨k02, by rw [netOk, c0, decide_eq_true c1, allTo_iff.2 ha]; rfl⟩
  have ixe := fun H0 : Heap => slc_idx (r := rEdge) (H1 := H0) (sz := 4) (i := i) (k := .i64) rfl he hin
  have e1 := edge_el ((rSlc rEdge).rdk he k02) hin
  generalize hx : ed es i = x at e1
  simp (maxSteps := 4000000) (disch := omega) only [Zq, evO, vbox, wr, Zeq, if_true, if_false, Nat.reduceEqDiff, Nat.reduceAdd, Nat.reduceLeDiff, Nat.reduceSub, and_self, and_true, true_and, reduceIte, reduceCtorEq, eq_self, implies_true, forall_const, false_implies, imp_self, decide_true, decide_false, fix_nil, fix_cons, g0, g1, t1, t16, t17, t18, g2, ixe, e1]
  generalize hG3 : (H2.push [.int .i64 0, .int .i64 0, .int .i64 0, .int .i64 0]).set H2.nxt [.int .i64 x.1, .int .i64 x.2.1, .int .i64 x.2.2.1, .int .i64 x.2.2.2] = H3
  have k3 : Keep H2 H3 := by rw [← hG3]; repeat' (first | exact Keep.refl _ | assumption | refine Keep.push' ?_ | refine Keep.set' ?_ ?_ | refine Keep.moved' ?_ ?_ | omega)
  have g3 : H3.get H2.nxt = some (.own [.int .i64 x.1, .int .i64 x.2.1, .int .i64 x.2.2.1, .int .i64 x.2.2.2]) := by rw [← hG3, Zbi, if_pos rfl]
  have n3 : H3.nxt = H2.nxt + 1 := by rw [← hG3, Zbh, Zbg]
  have g3n := (k3.get H.nxt (by omega)).trans g2
  have bad : edOk n x = false → netOk n es = false := fun h => netOk_bad hin (by rw [hx]; exact h)
  refine GO_call ((r_impl_node x.1 (by omega) (by omega)).mono ?_)
  rintro _ H4 ⟨k4, rfl⟩
  have n4 := k4.nxt
  have g4 := (k4.get (H2.nxt) (by omega)).trans g3
  have g4n := (k4.get (H.nxt) (by omega)).trans g3n
  have k24 := k3.trans k4
  have k04 := k02.trans k24
  cases c2 : inR 0 (n - 1) x.1 with
  | false =>
    simp (maxSteps := 4000000) (disch := omega) only [Zq, evO, vbox, wr, Zeq, if_true, if_false, Nat.reduceEqDiff, Nat.reduceAdd, Nat.reduceLeDiff, Nat.reduceSub, and_self, and_true, true_and, reduceIte, reduceCtorEq, eq_self, implies_true, forall_const, false_implies, imp_self, decide_true, decide_false, fix_nil, fix_cons, g0, g1, t1, t16, t17, t18, g2, g3, g3n, g4, g4n, c2]
    exact ⟨k04, by rw [bad (by rw [edOk, c2]; rfl)]⟩
  | true =>
  simp (maxSteps := 4000000) (disch := omega) only [Zq, evO, vbox, wr, Zeq, if_true, if_false, Nat.reduceEqDiff, Nat.reduceAdd, Nat.reduceLeDiff, Nat.reduceSub, and_self, and_true, true_and, reduceIte, reduceCtorEq, eq_self, implies_true, forall_const, false_implies, imp_self, decide_true, decide_false, fix_nil, fix_cons, g0, g1, t1, t16, t17, t18, g2, g3, g3n, g4, g4n, c2]
  refine GO_call ((r_impl_node x.2.1 (by omega) (by omega)).mono ?_)
  rintro _ H5 ⟨k5, rfl⟩
  have n5 := k5.nxt
  have g5 := (k5.get (H2.nxt) (by omega)).trans g4
  have g5n := (k5.get (H.nxt) (by omega)).trans g4n
  have k05 := k04.trans k5
  cases c3 : inR 0 (n - 1) x.2.1 with
  | false =>
    simp (maxSteps := 4000000) (disch := omega) only [Zq, evO, vbox, wr, Zeq, if_true, if_false, Nat.reduceEqDiff, Nat.reduceAdd, Nat.reduceLeDiff, Nat.reduceSub, and_self, and_true, true_and, reduceIte, reduceCtorEq, eq_self, implies_true, forall_const, false_implies, imp_self, decide_true, decide_false, fix_nil, fix_cons, g0, g1, t1, t16, t17, t18, g2, g3, g3n, g4, g4n, g5, g5n, c3]
    exact ⟨k05, by rw [bad (by rw [edOk, c2, c3]; rfl)]⟩
  | true =>
  by_cases c4 : x.1 = x.2.1
  · simp (maxSteps := 4000000) (disch := omega) only [Zq, evO, vbox, wr, Zeq, if_true, if_false, Nat.reduceEqDiff, Nat.reduceAdd, Nat.reduceLeDiff, Nat.reduceSub, and_self, and_true, true_and, reduceIte, reduceCtorEq, eq_self, implies_true, forall_const, false_implies, imp_self, decide_true, decide_false, fix_nil, fix_cons, g0, g1, t1, t16, t17, t18, g2, g3, g3n, g4, g4n, g5, g5n, c3, Zfl c4]
    exact ⟨k05, by rw [bad (by rw [edOk, c2, c3, decide_eq_true c4]; rfl)]⟩
  simp (maxSteps := 4000000) (disch := omega) only [Zq, evO, vbox, wr, Zeq, if_true, if_false, Nat.reduceEqDiff, Nat.reduceAdd, Nat.reduceLeDiff, Nat.reduceSub, and_self, and_true, true_and, reduceIte, reduceCtorEq, eq_self, implies_true, forall_const, false_implies, imp_self, decide_true, decide_false, fix_nil, fix_cons, g0, g1, t1, t16, t17, t18, g2, g3, g3n, g4, g4n, g5, g5n, c3, Zfm c4]
  refine GO_call ((r_impl_between x.2.2.1 1 100000 _).mono ?_)
  rintro _ H6 ⟨k6, rfl⟩
  have n6 := k6.nxt
  have g6 := (k6.get (H2.nxt) (by omega)).trans g5
  have k06 := k05.trans k6
  cases c5 : inR 1 100000 x.2.2.1 with
  | false =>
    simp (maxSteps := 4000000) (disch := omega) only [Zq, evO, vbox, wr, Zeq, if_true, if_false, Nat.reduceEqDiff, Nat.reduceAdd, Nat.reduceLeDiff, Nat.reduceSub, and_self, and_true, true_and, reduceIte, reduceCtorEq, eq_self, implies_true, forall_const, false_implies, imp_self, decide_true, decide_false, fix_nil, fix_cons, g0, g1, t1, t16, t17, t18, g2, g3, g3n, g4, g4n, g5, g5n, g6, c5]
    exact ⟨k06, by rw [bad (by rw [edOk, c2, c3, decide_eq_false c4, c5]; rfl)]⟩
  | true =>
  simp (maxSteps := 4000000) (disch := omega) only [Zq, evO, vbox, wr, Zeq, if_true, if_false, Nat.reduceEqDiff, Nat.reduceAdd, Nat.reduceLeDiff, Nat.reduceSub, and_self, and_true, true_and, reduceIte, reduceCtorEq, eq_self, implies_true, forall_const, false_implies, imp_self, decide_true, decide_false, fix_nil, fix_cons, g0, g1, t1, t16, t17, t18, g2, g3, g3n, g4, g4n, g5, g5n, g6, c5]
  refine GO_call ((r_impl_between x.2.2.2 1 90 _).mono ?_)
  rintro _ H7 ⟨k7, rfl⟩
  have n7 := k7.nxt
  cases c6 : inR 1 90 x.2.2.2 with
  | false =>
    simp (maxSteps := 4000000) (disch := omega) only [Zq, evO, vbox, wr, Zeq, if_true, if_false, Nat.reduceEqDiff, Nat.reduceAdd, Nat.reduceLeDiff, Nat.reduceSub, and_self, and_true, true_and, reduceIte, reduceCtorEq, eq_self, implies_true, forall_const, false_implies, imp_self, decide_true, decide_false, fix_nil, fix_cons, g0, g1, t1, t16, t17, t18, g2, g3, g3n, g4, g4n, g5, g5n, g6, c6]
    exact ⟨k06.trans k7, by rw [bad (by rw [edOk, c2, c3, decide_eq_false c4, c5, c6]; rfl)]⟩
  | true =>
  simp (maxSteps := 4000000) (disch := omega) only [Zq, evO, vbox, wr, Zeq, if_true, if_false, Nat.reduceEqDiff, Nat.reduceAdd, Nat.reduceLeDiff, Nat.reduceSub, and_self, and_true, true_and, reduceIte, reduceCtorEq, eq_self, implies_true, forall_const, false_implies, imp_self, decide_true, decide_false, fix_nil, fix_cons, g0, g1, t1, t16, t17, t18, g2, g3, g3n, g4, g4n, g5, g5n, g6, c6]
  exact ⟨hin, k2.trans (k24.trans (k5.trans (k6.trans k7))), upto_succ ha (by rw [hx, edOk, c2, c3, decide_eq_false c4, c5, c6]; rfl)⟩
theorem r_spec_NetOk (he : (rSlc rEdge).rd H [v] es) (hl : es.length ≤ 1048576) : Run Try.prog 100 [.agg #[.int .i64 n, v]] H fun r H' => Keep H H' ∧ r = .bool (netOk n es) := by
  have lv : ∀ H : Heap, vlen H v = some (.int .i64 es.length, H) := fun _ => slc_len he
  refine Run.intro c100 rfl ?_
  simp (maxSteps := 4000000) (disch := omega) only [Zq, evO, vbox, wr, Zeq, if_true, if_false, Nat.reduceEqDiff, Nat.reduceAdd, Nat.reduceLeDiff, Nat.reduceSub, and_self, and_true, true_and, reduceIte, reduceCtorEq, eq_self, implies_true, forall_const, false_implies, imp_self, decide_true, decide_false, x100]
  generalize hG0 : H.push [.int .i64 n, v] = H0
  have k0 : Keep H H0 := by rw [← hG0]; exact Keep.push _ _
  have g0 : H0.get H.nxt = some (.own [.int .i64 n, v]) := by rw [← hG0, push_get', if_pos rfl]
  have n0 : H0.nxt = H.nxt + 1 := by rw [← hG0, Zbg]
  refine GO_call ((r_spec_l01In n 1 30 _).mono ?_)
  rintro _ H1 ⟨k1, rfl⟩
  have n1 := k1.nxt
  have g1 := (k1.get (H.nxt) (by omega)).trans g0
  cases c0 : inR 1 30 n with
  | false =>
    simp (maxSteps := 4000000) (disch := omega) only [Zq, evO, vbox, wr, Zeq, if_true, if_false, Nat.reduceEqDiff, Nat.reduceAdd, Nat.reduceLeDiff, Nat.reduceSub, and_self, and_true, true_and, reduceIte, reduceCtorEq, eq_self, implies_true, forall_const, false_implies, imp_self, decide_true, decide_false, fix_nil, fix_cons, g0, g1, c0]
    exact ⟨k0.trans k1, by rw [netOk, c0]; rfl⟩
  | true =>
  have n30 := inR_iff.1 c0
  have hwn : IntKind.i64.wrap (n - 1) = n - 1 := wrap64 (by omega) (by omega)
  by_cases c1 : es.length ≤ 60
  rotate_left
  · simp (maxSteps := 4000000) (disch := omega) only [Zq, evO, vbox, wr, Zeq, if_true, if_false, Nat.reduceEqDiff, Nat.reduceAdd, Nat.reduceLeDiff, Nat.reduceSub, and_self, and_true, true_and, reduceIte, reduceCtorEq, eq_self, implies_true, forall_const, false_implies, imp_self, decide_true, decide_false, fix_nil, fix_cons, g0, g1, c0, lv]
    exact ⟨k0.trans k1, by rw [netOk, decide_eq_false c1, Bool.false_and, Bool.and_false]⟩
  have k01 := k0.trans k1
  simp (maxSteps := 4000000) (disch := omega) only [Zq, evO, vbox, wr, Zeq, if_true, if_false, Nat.reduceEqDiff, Nat.reduceAdd, Nat.reduceLeDiff, Nat.reduceSub, and_self, and_true, true_and, reduceIte, reduceCtorEq, eq_self, implies_true, forall_const, false_implies, imp_self, decide_true, decide_false, fix_nil, fix_cons, g0, g1, c0, lv]
  refine G_forF [1] (es.length) (fun i T H2 => T 3 = .int .i64 (i : Int) ∧ Keep H1 H2 ∧ ∀ j, j < i → edOk n (ed es j) = true) 0 (Nat.zero_le _) ?_ ?_
  · simp (maxSteps := 4000000) (disch := omega) only [Zq, evO, vbox, wr, Zeq, if_true, if_false, Nat.reduceEqDiff, Nat.reduceAdd, Nat.reduceLeDiff, Nat.reduceSub, and_self, and_true, true_and, reduceIte, reduceCtorEq, eq_self, implies_true, forall_const, false_implies, imp_self, decide_true, decide_false, fix_nil, fix_cons, g0, g1]
    exact ⟨Keep.refl _, fun j hj => by omega⟩
  rintro i T H2 hi hT ⟨t3, k2, ha⟩
  simp only [fix_nil, fix_cons, Zq, evO, vbox, wr, Zeq, if_true, if_false, Nat.reduceEqDiff, Nat.reduceAdd, Nat.reduceLeDiff, Nat.reduceSub, and_self, and_true, true_and, reduceIte, reduceCtorEq, eq_self, implies_true, forall_const, false_implies, imp_self, decide_true, decide_false] at hT
  have t1 := hT
  have n2 := k2.nxt
  have g2 := (k2.get H.nxt (by omega)).trans g1
  have k02 := k01.trans k2
  by_cases hin : i < es.length
  rotate_left
  · obtain rfl : i = es.length := by omega
    simp (maxSteps := 4000000) (disch := omega) only [Zq, evO, vbox, wr, Zeq, if_true, if_false, Nat.reduceEqDiff, Nat.reduceAdd, Nat.reduceLeDiff, Nat.reduceSub, and_self, and_true, true_and, reduceIte, reduceCtorEq, eq_self, implies_true, forall_const, false_implies, imp_self, decide_true, decide_false, fix_nil, fix_cons, g0, g1, t1, t3, g2, lv]
    exact ⟨k02, by rw [netOk, c0, decide_eq_true c1, allTo_iff.2 ha]; rfl⟩
  have ixe := fun H0 : Heap => slc_idx (r := rEdge) (H1 := H0) (sz := 4) (i := i) (k := .i64) rfl he hin
  have e1 := edge_el ((rSlc rEdge).rdk he k02) hin
  generalize hx : ed es i = x at e1
  simp (maxSteps := 4000000) (disch := omega) only [Zq, evO, vbox, wr, Zeq, if_true, if_false, Nat.reduceEqDiff, Nat.reduceAdd, Nat.reduceLeDiff, Nat.reduceSub, and_self, and_true, true_and, reduceIte, reduceCtorEq, eq_self, implies_true, forall_const, false_implies, imp_self, decide_true, decide_false, fix_nil, fix_cons, g0, g1, t1, t3, g2, ixe, e1, lv]
  generalize hG3 : (H2.push [.int .i64 0, .int .i64 0, .int .i64 0, .int .i64 0]).set H2.nxt [.int .i64 x.1, .int .i64 x.2.1, .int .i64 x.2.2.1, .int .i64 x.2.2.2] = H3
  have k3 : Keep H2 H3 := by rw [← hG3]; repeat' (first | exact Keep.refl _ | assumption | refine Keep.push' ?_ | refine Keep.set' ?_ ?_ | refine Keep.moved' ?_ ?_ | omega)
  have g3 : H3.get H2.nxt = some (.own [.int .i64 x.1, .int .i64 x.2.1, .int .i64 x.2.2.1, .int .i64 x.2.2.2]) := by rw [← hG3, Zbi, if_pos rfl]
  have n3 : H3.nxt = H2.nxt + 1 := by rw [← hG3, Zbh, Zbg]
  have g3n := (k3.get H.nxt (by omega)).trans g2
  simp (maxSteps := 4000000) (disch := omega) only [Zq, evO, vbox, wr, Zeq, if_true, if_false, Nat.reduceEqDiff, Nat.reduceAdd, Nat.reduceLeDiff, Nat.reduceSub, and_self, and_true, true_and, reduceIte, reduceCtorEq, eq_self, implies_true, forall_const, false_implies, imp_self, decide_true, decide_false, fix_nil, fix_cons, g0, g1, t1, t3, g2, g3, g3n, hwn]
  have bad : edOk n x = false → netOk n es = false := fun h => netOk_bad hin (by rw [hx]; exact h)
  refine GO_call ((r_spec_l01In x.1 0 (n - 1) _).mono ?_)
  rintro _ H4 ⟨k4, rfl⟩
  have n4 := k4.nxt
  have g4 := (k4.get (H2.nxt) (by omega)).trans g3
  have g4n := (k4.get (H.nxt) (by omega)).trans g3n
  have k24 := k3.trans k4
  have k04 := k02.trans k24
  cases c2 : inR 0 (n - 1) x.1 with
  | false =>
    simp (maxSteps := 4000000) (disch := omega) only [Zq, evO, vbox, wr, Zeq, if_true, if_false, Nat.reduceEqDiff, Nat.reduceAdd, Nat.reduceLeDiff, Nat.reduceSub, and_self, and_true, true_and, reduceIte, reduceCtorEq, eq_self, implies_true, forall_const, false_implies, imp_self, decide_true, decide_false, fix_nil, fix_cons, g0, g1, t1, t3, g2, g3, g3n, g4, g4n, c2]
    exact ⟨k04, by rw [bad (by rw [edOk, c2]; rfl)]⟩
  | true =>
  simp (maxSteps := 4000000) (disch := omega) only [Zq, evO, vbox, wr, Zeq, if_true, if_false, Nat.reduceEqDiff, Nat.reduceAdd, Nat.reduceLeDiff, Nat.reduceSub, and_self, and_true, true_and, reduceIte, reduceCtorEq, eq_self, implies_true, forall_const, false_implies, imp_self, decide_true, decide_false, fix_nil, fix_cons, g0, g1, t1, t3, g2, g3, g3n, g4, g4n, c2, hwn]
  refine GO_call ((r_spec_l01In x.2.1 0 (n - 1) _).mono ?_)
  rintro _ H5 ⟨k5, rfl⟩
  have n5 := k5.nxt
  have g5 := (k5.get (H2.nxt) (by omega)).trans g4
  have g5n := (k5.get (H.nxt) (by omega)).trans g4n
  have k05 := k04.trans k5
  cases c3 : inR 0 (n - 1) x.2.1 with
  | false =>
    simp (maxSteps := 4000000) (disch := omega) only [Zq, evO, vbox, wr, Zeq, if_true, if_false, Nat.reduceEqDiff, Nat.reduceAdd, Nat.reduceLeDiff, Nat.reduceSub, and_self, and_true, true_and, reduceIte, reduceCtorEq, eq_self, implies_true, forall_const, false_implies, imp_self, decide_true, decide_false, fix_nil, fix_cons, g0, g1, t1, t3, g2, g3, g3n, g4, g4n, g5, g5n, c3]
    exact ⟨k05, by rw [bad (by rw [edOk, c2, c3]; rfl)]⟩
  | true =>
  by_cases c4 : x.1 = x.2.1
  · simp (maxSteps := 4000000) (disch := omega) only [Zq, evO, vbox, wr, Zeq, if_true, if_false, Nat.reduceEqDiff, Nat.reduceAdd, Nat.reduceLeDiff, Nat.reduceSub, and_self, and_true, true_and, reduceIte, reduceCtorEq, eq_self, implies_true, forall_const, false_implies, imp_self, decide_true, decide_false, fix_nil, fix_cons, g0, g1, t1, t3, g2, g3, g3n, g4, g4n, g5, g5n, c3, Zfl c4]
    exact ⟨k05, by rw [bad (by rw [edOk, c2, c3, decide_eq_true c4]; rfl)]⟩
  simp (maxSteps := 4000000) (disch := omega) only [Zq, evO, vbox, wr, Zeq, if_true, if_false, Nat.reduceEqDiff, Nat.reduceAdd, Nat.reduceLeDiff, Nat.reduceSub, and_self, and_true, true_and, reduceIte, reduceCtorEq, eq_self, implies_true, forall_const, false_implies, imp_self, decide_true, decide_false, fix_nil, fix_cons, g0, g1, t1, t3, g2, g3, g3n, g4, g4n, g5, g5n, c3, Zfm c4]
  refine GO_call ((r_spec_l01In x.2.2.1 1 100000 _).mono ?_)
  rintro _ H6 ⟨k6, rfl⟩
  have n6 := k6.nxt
  have g6 := (k6.get (H2.nxt) (by omega)).trans g5
  have k06 := k05.trans k6
  cases c5 : inR 1 100000 x.2.2.1 with
  | false =>
    simp (maxSteps := 4000000) (disch := omega) only [Zq, evO, vbox, wr, Zeq, if_true, if_false, Nat.reduceEqDiff, Nat.reduceAdd, Nat.reduceLeDiff, Nat.reduceSub, and_self, and_true, true_and, reduceIte, reduceCtorEq, eq_self, implies_true, forall_const, false_implies, imp_self, decide_true, decide_false, fix_nil, fix_cons, g0, g1, t1, t3, g2, g3, g3n, g4, g4n, g5, g5n, g6, c5]
    exact ⟨k06, by rw [bad (by rw [edOk, c2, c3, decide_eq_false c4, c5]; rfl)]⟩
  | true =>
  simp (maxSteps := 4000000) (disch := omega) only [Zq, evO, vbox, wr, Zeq, if_true, if_false, Nat.reduceEqDiff, Nat.reduceAdd, Nat.reduceLeDiff, Nat.reduceSub, and_self, and_true, true_and, reduceIte, reduceCtorEq, eq_self, implies_true, forall_const, false_implies, imp_self, decide_true, decide_false, fix_nil, fix_cons, g0, g1, t1, t3, g2, g3, g3n, g4, g4n, g5, g5n, g6, c5]
  refine GO_call ((r_spec_l01In x.2.2.2 1 90 _).mono ?_)
  rintro _ H7 ⟨k7, rfl⟩
  have n7 := k7.nxt
  cases c6 : inR 1 90 x.2.2.2 with
  | false =>
    simp (maxSteps := 4000000) (disch := omega) only [Zq, evO, vbox, wr, Zeq, if_true, if_false, Nat.reduceEqDiff, Nat.reduceAdd, Nat.reduceLeDiff, Nat.reduceSub, and_self, and_true, true_and, reduceIte, reduceCtorEq, eq_self, implies_true, forall_const, false_implies, imp_self, decide_true, decide_false, fix_nil, fix_cons, g0, g1, t1, t3, g2, g3, g3n, g4, g4n, g5, g5n, g6, c6]
    exact ⟨k06.trans k7, by rw [bad (by rw [edOk, c2, c3, decide_eq_false c4, c5, c6]; rfl)]⟩
  | true =>
  simp (maxSteps := 4000000) (disch := omega) only [Zq, evO, vbox, wr, Zeq, if_true, if_false, Nat.reduceEqDiff, Nat.reduceAdd, Nat.reduceLeDiff, Nat.reduceSub, and_self, and_true, true_and, reduceIte, reduceCtorEq, eq_self, implies_true, forall_const, false_implies, imp_self, decide_true, decide_false, fix_nil, fix_cons, g0, g1, t1, t3, g2, g3, g3n, g4, g4n, g5, g5n, g6, c6]
  exact ⟨hin, k2.trans (k24.trans (k5.trans (k6.trans k7))), upto_succ ha (by rw [hx, edOk, c2, c3, decide_eq_false c4, c5, c6]; rfl)⟩
end
end Go.Proofs.Ytjjglonmaajjoaa.AX
