/- How late trips come in: the two ways. No condition beyond each law's own; of the program: the functions' forms. -/
import Derived.Test.YtjjglonmaajjoaaXG
import Derived.Test.YtjjglonmaajjoaaPds
import Derived.Test.YtjjglonmaajjoaaPdm
import Derived.Test.YtjjglonmaajjoaaPdn
namespace Go.Proofs.Ytjjglonmaajjoaa.AX
open Go
set_option maxRecDepth 10000
set_option maxHeartbeats 4000000
set_option linter.unusedSimpArgs false
set_option linter.unusedVariables false
section
variable {H : Heap} {v w u : Value} {n : Int} {es : List Ed} {l : List Tp} {la : List Int}
theorem r_impl_lateAt (d : Dy es l la) (he : (rSlc rEdge).rd H [v] es) (hr : (rSlc rTrip).rd H [w] l) (hu : (rSlc rInt).rd H [u] la) : Run Try.prog 63 [.agg #[.int .i64 n, v], w, u] H fun r H' => Keep H H' ∧ NewI H H' r (latL es l la) := by
  have lw : ∀ H : Heap, vlen H w = some (.int .i64 l.length, H) := fun _ => slc_len hr
  have l24 := d.d6
  refine Run.intro c63 rfl ?_
  simp (maxSteps := 4000000) (disch := omega) only [Zq, evO, vbox, wr, Zeq, if_true, if_false, Nat.reduceEqDiff, Nat.reduceAdd, Nat.reduceLeDiff, Nat.reduceSub, and_self, and_true, true_and, reduceIte, reduceCtorEq, eq_self, implies_true, forall_const, false_implies, imp_self, decide_true, decide_false, x63, lw]
  generalize hG0 : H.push [.int .i64 n, v] = H0
  have k0 : Keep H H0 := by rw [← hG0]; exact Keep.push _ _
  have g0 : H0.get H.nxt = some (.own [.int .i64 n, v]) := by rw [← hG0, push_get', if_pos rfl]
  have n0 : H0.nxt = H.nxt + 1 := by rw [← hG0, Zbg]
  generalize hG2 : H0.push (List.replicate l.length [Value.int .i64 0]).flatten = H2
  have k2 : Keep H0 H2 := by rw [← hG2]; exact Keep.push _ _
  have n2 : H2.nxt = H0.nxt + 1 := by rw [← hG2, Zbg]
  obtain ⟨cv, hcv⟩ : ∃ cv, cv = Value.slice (some ⟨H0.nxt, 0, none⟩) l.length 1 := ⟨_, rfl⟩
  have oc2 : NewI H0 H2 cv (List.replicate l.length 0) := ⟨H0.nxt, Nat.le_refl _, by omega, by rw [hcv, List.length_replicate], by rw [← hG2, push_get', if_pos rfl, fcZ]; congr 2; induction l.length with | zero => rfl | succ n ih => simp [List.replicate_succ, ih]⟩
  have hcb : blk cv = H0.nxt := by rw [hcv]; rfl
  rw [n0] at hcv
  rw [← hcv]
  have g2 := (k2.get H.nxt (by omega)).trans g0
  clear hG2
  have k02 := k0.trans k2
  refine GO_call ((r_play (n := n) d ((rSlc rEdge).rdk he k02) ((rSlc rTrip).rdk hr k02) ((rSlc rInt).rdk hu k02)).mono ?_)
  rintro r3 H3 hp
  obtain ⟨q, R, A, B, C, D, rfl, hq, g3, k3, F, hF, fF⟩ := hp.runs
  obtain ⟨S, g, hf, ep⟩ := pday_fact d
  have hlen := gd_len d g
  have hli := lat_impl d
  rw [ep] at hF hli
  have k03 := k02.trans k3
  have n3 := k3.nxt
  have lR : ∀ H : Heap, vlen H R = some (.int .i64 S.1.length, H) := fun _ => slc_len ((rSlc rRun).ownrd hF)
  simp (maxSteps := 4000000) (disch := omega) only [Zq, evO, vbox, wr, Zeq, if_true, if_false, Nat.reduceEqDiff, Nat.reduceAdd, Nat.reduceLeDiff, Nat.reduceSub, and_self, and_true, true_and, reduceIte, reduceCtorEq, eq_self, implies_true, forall_const, false_implies, imp_self, decide_true, decide_false, fix_nil, fix_cons, g0, g2, g3, g3, lR]
  refine G_forF [1, 7, 19, 20] (S.1.length) (fun j T H4 => T 21 = .int .i64 (j : Int) ∧ Chg [H0.nxt] H3 H4 ∧ NewI H0 H4 cv ((S.1.take j).foldl (latS l) (List.replicate l.length 0))) 0 (Nat.zero_le _) ?_ ?_
  · simp (maxSteps := 4000000) (disch := omega) only [Zq, evO, vbox, wr, Zeq, if_true, if_false, Nat.reduceEqDiff, Nat.reduceAdd, Nat.reduceLeDiff, Nat.reduceSub, and_self, and_true, true_and, reduceIte, reduceCtorEq, eq_self, implies_true, forall_const, false_implies, imp_self, decide_true, decide_false, fix_nil, fix_cons, g0, g2, g3]
    exact ⟨Chg.refl _ _, oc2.keep k3⟩
  rintro j T H4 hj hT ⟨t21, c4, oc4⟩
  simp only [fix_nil, fix_cons, Zq, evO, vbox, wr, Zeq, if_true, if_false, Nat.reduceEqDiff, Nat.reduceAdd, Nat.reduceLeDiff, Nat.reduceSub, and_self, and_true, true_and, reduceIte, reduceCtorEq, eq_self, implies_true, forall_const, false_implies, imp_self, decide_true, decide_false] at hT
  obtain ⟨t1, t7, t19, t20⟩ := hT
  have n4 := c4.nxt
  have k04 := c4.keep k03 (fun i hi => by simp at hi; omega)
  by_cases hjn : j < S.1.length
  rotate_left
  · obtain rfl : j = S.1.length := by omega
    rw [List.take_length, hli] at oc4
    have x1 := Sl.noTup_ (oc4.sl (fZ_len .i64))
    have x2 := Sl.cells_ (oc4.sl (fZ_len .i64))
    simp (maxSteps := 4000000) (disch := omega) only [Zq, evO, vbox, wr, Zeq, if_true, if_false, Nat.reduceEqDiff, Nat.reduceAdd, Nat.reduceLeDiff, Nat.reduceSub, and_self, and_true, true_and, reduceIte, reduceCtorEq, eq_self, implies_true, forall_const, false_implies, imp_self, decide_true, decide_false, fix_nil, fix_cons, g0, g2, g3, t1, t7, t19, t20, t21, x1, x2]
    exact ⟨k04, oc4.base (by omega)⟩
  have hz := (rSlc rRun).ownrd ((rSlc rRun).ownChg hF c4 (fun a ha hm => by have := fF.2 a ha; simp at hm; omega))
  have ixz := fun H0 : Heap => slc_idx (r := rRun) (H1 := H0) (sz := 4) (i := j) (k := .i64) rfl hz hjn
  have hmem : rn S.1 j ∈ S.1 := by rw [rn, getD_get _ _ hjn]; exact List.getElem_mem hjn
  have hgt := g.gt _ hmem
  obtain ⟨p, q, hp, hq, hpl, hql⟩ := g.behind hmem
  have hgk := g.gk p hpl
  have eR := (run_elK hz hjn H4 (Keep.refl _)).1
  have hts : (S.1.take (j + 1)).foldl (latS l) (List.replicate l.length 0) = latS l ((S.1.take j).foldl (latS l) (List.replicate l.length 0)) (rn S.1 j) := by
    rw [take_snoc S.1 (0, 0, 0, 0) hjn, List.foldl_append]; rfl
  generalize hy : rn S.1 j = y at eR hgt hp hq hts
  obtain ⟨a, b, f, t⟩ := y
  simp only [] at eR hgt hp hq hts
  subst hp hq
  simp (maxSteps := 4000000) (disch := omega) only [Zq, evO, vbox, wr, Zeq, if_true, if_false, Nat.reduceEqDiff, Nat.reduceAdd, Nat.reduceLeDiff, Nat.reduceSub, and_self, and_true, true_and, reduceIte, reduceCtorEq, eq_self, implies_true, forall_const, false_implies, imp_self, decide_true, decide_false, fix_nil, fix_cons, g0, g2, g3, t1, t7, t19, t20, t21, ixz, eR]
  generalize hG5 : (H4.push [.int .i64 0, .int .i64 0, .int .i64 0, .int .i64 0]).set H4.nxt [.int .i64 p, .int .i64 q, .int .i64 f, .int .i64 t] = H5
  have k5 : Keep H4 H5 := by rw [← hG5]; repeat' (first | exact Keep.refl _ | assumption | refine Keep.push' ?_ | refine Keep.set' ?_ ?_ | refine Keep.moved' ?_ ?_ | omega)
  have g5 : H5.get H4.nxt = some (.own [.int .i64 p, .int .i64 q, .int .i64 f, .int .i64 t]) := by rw [← hG5, Zbi, if_pos rfl]
  have n5 : H5.nxt = H4.nxt + 1 := by rw [← hG5, Zbh, Zbg]
  have k05 := k04.trans k5
  have oc5 := oc4.keep k5
  obtain ⟨wc, hc, fc⟩ := trip_elK hr hpl
  have ixw := fun H0 : Heap => slc_idx (r := rTrip) (H1 := H0) (sz := 2) (i := p) (k := .i64) rfl hr hpl
  have fxw := fun (H0 : Heap) (o off : Nat) => slc_fad (r := rTrip) (H1 := H0) (sz := 2) (o := o) (off := off) rfl hr hpl
  have ixp := fun H0 : Heap => slc_idx (r := rCall) (H1 := H0) (sz := 3) (i := q + 1) (k := .i64) rfl hc (by omega)
  have fxp := fun (H0 : Heap) (o off : Nat) => slc_fad (r := rCall) (H1 := H0) (sz := 3) (i := q + 1) (o := o) (off := off) rfl hc (by omega)
  have x1 := (call_el (i := q + 1) ((rSlc rCall).rdk hc k05) (by omega)).2.2.1
  rw [show (cl (tp l p).2 (q + 1)).2.1 = av l p (q + 1) from rfl] at x1
  have h12 := d.d1 p hpl
  have hd2 := d.d2 p (q + 1) hpl (by omega)
  have hw1 : IntKind.i64.wrap ((q : Int) + 1) = ((q + 1 : Nat) : Int) := by rw [wrap64 (by omega) (by omega)]; omega
  have hw2 : IntKind.i64.wrap (t - av l p (q + 1)) = t - av l p (q + 1) := wrap64 (by omega) (by omega)
  obtain ⟨H6, e6, o6, kk6, n6, on6⟩ := NewF.st2 (i := p) (x := .int .i64 (t - av l p (q + 1))) (y := t - av l p (q + 1)) (fZ_len .i64) oc5 rfl rfl (by rw [latS_len]; simpa using hpl)
  have ixc : ∀ H0 : Heap, vidx H0 1 cv (.int .i64 (p : Int)) = some (adr cv p 1 0, H0) := fun H0 => (oc5.sl (fZ_len .i64)).idx (by rw [latS_len]; simpa using hpl)
  refine G_tame rfl ?_
  simp (maxSteps := 4000000) (disch := omega) only [Zq, evO, vbox, wr, Zeq, if_true, if_false, Nat.reduceEqDiff, Nat.reduceAdd, Nat.reduceLeDiff, Nat.reduceSub, and_self, and_true, true_and, reduceIte, reduceCtorEq, eq_self, implies_true, forall_const, false_implies, imp_self, decide_true, decide_false, fix_nil, fix_cons, g0, g2, g3, t1, t7, t19, t20, t21, g5, ixw, fxw, (fc H5 k05).2.2, ixp, fxp, x1, hw1, hw2, ixc, e6]
  have hset : latS l ((S.1.take j).foldl (latS l) (List.replicate l.length 0)) ((p : Int), (q : Int), f, t) = ((S.1.take j).foldl (latS l) (List.replicate l.length 0)).set p (t - av l p (q + 1)) := by simp [latS]
  rw [hts, hset]
  refine ⟨hjn, c4.trans (k5.chg.trans ⟨by omega, fun a ha hne => on6 a (by simpa [hcb] using hne)⟩), o6⟩
theorem r_impl_LateAt (he : (rSlc rEdge).rd H [v] es) (hl : es.length ≤ 1048576) (hr : (rSlc rTrip).rd H [w] l) (ht : (rSlc rTrip).tot l ≤ 1048576) (hu : (rSlc rInt).rd H [u] la) (hul : la.length ≤ 1048576) : Run Try.prog 22 [.agg #[.int .i64 n, v], w, u] H fun r H' => Keep H H' ∧ OwnS rInt H H' r (noOr (dayOk n es l la) (latL es l la)) := by
  refine Run.intro c22 rfl ?_
  simp (maxSteps := 4000000) (disch := omega) only [Zq, evO, vbox, wr, Zeq, if_true, if_false, Nat.reduceEqDiff, Nat.reduceAdd, Nat.reduceLeDiff, Nat.reduceSub, and_self, and_true, true_and, reduceIte, reduceCtorEq, eq_self, implies_true, forall_const, false_implies, imp_self, decide_true, decide_false, x22]
  generalize hG0 : H.push [.int .i64 n, v] = H0
  have k0 : Keep H H0 := by rw [← hG0]; exact Keep.push _ _
  have g0 : H0.get H.nxt = some (.own [.int .i64 n, v]) := by rw [← hG0, push_get', if_pos rfl]
  have n0 : H0.nxt = H.nxt + 1 := by rw [← hG0, Zbg]
  refine GO_call ((r_impl_DayOk (n := n) ((rSlc rEdge).rdk he k0) hl ((rSlc rTrip).rdk hr k0) ht ((rSlc rInt).rdk hu k0) hul).mono ?_)
  rintro _ H1 ⟨k1, rfl⟩
  have n1 := k1.nxt
  have g1 := (k1.get (H.nxt) (by omega)).trans g0
  have k01 := k0.trans k1
  cases ok : dayOk n es l la with
  | false =>
    simp (maxSteps := 4000000) (disch := omega) only [Zq, evO, vbox, wr, Zeq, if_true, if_false, Nat.reduceEqDiff, Nat.reduceAdd, Nat.reduceLeDiff, Nat.reduceSub, and_self, and_true, true_and, reduceIte, reduceCtorEq, eq_self, implies_true, forall_const, false_implies, imp_self, decide_true, decide_false, fix_nil, fix_cons, g0, g1, ok]
    exact ⟨k01, own_nil⟩
  | true =>
  obtain ⟨d, rok⟩ := dy_of ok
  simp (maxSteps := 4000000) (disch := omega) only [Zq, evO, vbox, wr, Zeq, if_true, if_false, Nat.reduceEqDiff, Nat.reduceAdd, Nat.reduceLeDiff, Nat.reduceSub, and_self, and_true, true_and, reduceIte, reduceCtorEq, eq_self, implies_true, forall_const, false_implies, imp_self, decide_true, decide_false, fix_nil, fix_cons, g0, g1, ok]
  refine GO_call ((r_impl_lateAt (n := n) d ((rSlc rEdge).rdk he k01) ((rSlc rTrip).rdk hr k01) ((rSlc rInt).rdk hu k01)).mono ?_)
  rintro r2 H2 ⟨k2, o2⟩
  have hn := k01.nxt
  have x1 := Sl.noTup_ (o2.sl (fZ_len .i64))
  have x2 := Sl.cells_ (o2.sl (fZ_len .i64))
  simp (maxSteps := 4000000) (disch := omega) only [Zq, evO, vbox, wr, Zeq, if_true, if_false, Nat.reduceEqDiff, Nat.reduceAdd, Nat.reduceLeDiff, Nat.reduceSub, and_self, and_true, true_and, reduceIte, reduceCtorEq, eq_self, implies_true, forall_const, false_implies, imp_self, decide_true, decide_false, fix_nil, fix_cons, g0, g1, x1, x2]
  exact ⟨k01.trans k2, by rw [noOr, if_pos rfl]; exact (o2.base (H0 := H) (by omega)).ownI⟩
theorem latL_len : (latL es l la).length = l.length := by rw [latL]; simp
end
end Go.Proofs.Ytjjglonmaajjoaa.AX
