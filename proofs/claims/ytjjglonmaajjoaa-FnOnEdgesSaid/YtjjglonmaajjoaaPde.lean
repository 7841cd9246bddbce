/- Who is on the edges in a minute: the two ways. No condition beyond each law's own; of the program: the functions' forms. -/
import Derived.Test.YtjjglonmaajjoaaXG
import Derived.Test.YtjjglonmaajjoaaPds
import Derived.Test.YtjjglonmaajjoaaPdm
import Derived.Test.YtjjglonmaajjoaaPdn
namespace Go.Proofs.Ytjjglonmaajjoaa.AX
open Go
set_option maxRecDepth 10000
set_option maxHeartbeats 4000000
set_option linter.unusedSimpArgs false
set_option linter.unusedVariables false
def on1 (es : List Ed) (l : List Tp) (m : Int) (e : Nat) (a : Int) (r : Rn) : Int := if rnE es l r = e ∧ r.2.2.1 ≤ m ∧ m < r.2.2.2 then r.1 else a
def onE (es : List Ed) (l : List Tp) (rs : List Rn) (m : Int) (e : Nat) : Int := rs.foldl (on1 es l m e) (-1)
def onL (es : List Ed) (l : List Tp) (la : List Int) (m : Int) : List Int := (List.range es.length).map (onE es l (pday es l la) m)
section
variable {H : Heap} {v w u : Value} {n : Int} {es : List Ed} {l : List Tp} {la : List Int} {m : Int}
theorem onE_take {rs : List Rn} {j : Nat} (e : Nat) (hj : j < rs.length) : onE es l (rs.take (j + 1)) m e = on1 es l m e (onE es l (rs.take j) m e) (rn rs j) := by
  rw [take_snoc rs (0, 0, 0, 0) hj, onE, List.foldl_append]; rfl
theorem onL_get {e : Nat} (h : e < es.length) : gi (onL es l la m) e = onE es l (pday es l la) m e := by
  rw [gi, onL, getD_get _ _ (by simpa using h)]
  simp
theorem onL_len : (onL es l la m).length = es.length := by rw [onL]; simp
theorem onL_take {e : Nat} (h : e < es.length) : (onL es l la m).take (e + 1) = (onL es l la m).take e ++ [onE es l (pday es l la) m e] := by
  rw [take_snoc _ 0 (by rw [onL_len]; exact h)]
  congr 2
  exact onL_get h
theorem on_ext {o : List Int} (hl : o.length = es.length) (h : ∀ e, e < es.length → gi o e = onE es l (pday es l la) m e) : o = onL es l la m := by
  refine ext_gi (by rw [hl, onL_len]) fun i hi => ?_
  rw [h i (by omega), onL_get (by omega)]
theorem r_spec_OnEdges (he : (rSlc rEdge).rd H [v] es) (hl : es.length ≤ 1048576) (hr : (rSlc rTrip).rd H [w] l) (ht : (rSlc rTrip).tot l ≤ 1048576) (hu : (rSlc rInt).rd H [u] la) (hul : la.length ≤ 1048576) (m : Int) : Run Try.prog 29 [.agg #[.int .i64 n, v], w, u, .int .i64 m] H fun r H' => Keep H H' ∧ OwnS rInt H H' r (noOr (dayOk n es l la) (onL es l la m)) := by
  have lv : ∀ H : Heap, vlen H v = some (.int .i64 es.length, H) := fun _ => slc_len he
  refine Run.intro c29 rfl ?_
  simp (maxSteps := 4000000) (disch := omega) only [Zq, evO, vbox, wr, Zeq, if_true, if_false, Nat.reduceEqDiff, Nat.reduceAdd, Nat.reduceLeDiff, Nat.reduceSub, and_self, and_true, true_and, reduceIte, reduceCtorEq, eq_self, implies_true, forall_const, false_implies, imp_self, decide_true, decide_false, x29]
  generalize hG0 : H.push [.int .i64 n, v] = H0
  have k0 : Keep H H0 := by rw [← hG0]; exact Keep.push _ _
  have g0 : H0.get H.nxt = some (.own [.int .i64 n, v]) := by rw [← hG0, push_get', if_pos rfl]
  have n0 : H0.nxt = H.nxt + 1 := by rw [← hG0, Zbg]
  refine GO_call ((r_spec_DayOk (n := n) ((rSlc rEdge).rdk he k0) hl ((rSlc rTrip).rdk hr k0) ht ((rSlc rInt).rdk hu k0) hul).mono ?_)
  rintro _ H1 ⟨k1, rfl⟩
  have n1 := k1.nxt
  have g1 := (k1.get (H.nxt) (by omega)).trans g0
  have k01 := k0.trans k1
  cases ok : dayOk n es l la with
  | false =>
    simp (maxSteps := 4000000) (disch := omega) only [Zq, evO, vbox, wr, Zeq, if_true, if_false, Nat.reduceEqDiff, Nat.reduceAdd, Nat.reduceLeDiff, Nat.reduceSub, and_self, and_true, true_and, reduceIte, reduceCtorEq, eq_self, implies_true, forall_const, false_implies, imp_self, decide_true, decide_false, fix_nil, fix_cons, g0, g1, ok]
    exact ⟨k01, own_nil⟩
  | true =>
  obtain ⟨d, rok⟩ := dy_of ok
  rw [noOr, if_pos rfl]
  simp (maxSteps := 4000000) (disch := omega) only [Zq, evO, vbox, wr, Zeq, if_true, if_false, Nat.reduceEqDiff, Nat.reduceAdd, Nat.reduceLeDiff, Nat.reduceSub, and_self, and_true, true_and, reduceIte, reduceCtorEq, eq_self, implies_true, forall_const, false_implies, imp_self, decide_true, decide_false, fix_nil, fix_cons, g0, g1, ok]
  refine GO_call ((r_spec_PlayDay (n := n) ((rSlc rEdge).rdk he k01) hl ((rSlc rTrip).rdk hr k01) ht ((rSlc rInt).rdk hu k01) hul).mono ?_)
  rintro z H2 ⟨k2, oz⟩
  have n2 := k2.nxt
  have g2 := (k2.get (H.nxt) (by omega)).trans g1
  rw [noOr, if_pos ok] at oz
  have hz := oz.rd
  have k02 := k01.trans k2
  have l60 := d.d7
  have hll := onL_len (es := es) (l := l) (la := la) (m := m)
  have hlt := fun e (h : e < es.length) => onL_take (es := es) (l := l) (la := la) (m := m) h
  obtain ⟨S, g, hf, ep⟩ := pday_fact d
  have hlen := gd_len d g
  simp only [ep] at hz hlt
  generalize hLL : onL es l la m = LL at hll hlt
  have lz : ∀ H : Heap, vlen H z = some (.int .i64 S.1.length, H) := fun _ => slc_len hz
  simp (maxSteps := 4000000) (disch := omega) only [Zq, evO, vbox, wr, Zeq, if_true, if_false, Nat.reduceEqDiff, Nat.reduceAdd, Nat.reduceLeDiff, Nat.reduceSub, and_self, and_true, true_and, reduceIte, reduceCtorEq, eq_self, implies_true, forall_const, false_implies, imp_self, decide_true, decide_false, fix_nil, fix_cons, g0, g1, g2]
  generalize hG3 : H2.push [] = H3
  have k3 : Keep H2 H3 := by rw [← hG3]; exact Keep.push _ _
  have n3 : H3.nxt = H2.nxt + 1 := by rw [← hG3, Zbg]
  have o3 : NewI H2 H3 (.slice (some ⟨H2.nxt, 0, none⟩) 0 1) [] := by rw [← hG3]; exact NewF.new (Keep.refl _)
  clear hG3
  refine G_forF [1, 3, 4, 9] (es.length) (fun i T H4 => T 11 = .int .i64 (i : Int) ∧ Keep H2 H4 ∧ ∃ c, T 10 = c ∧ NewI H2 H4 c (LL.take i)) 0 (Nat.zero_le _) ?_ ?_
  · simp (maxSteps := 4000000) (disch := omega) only [Zq, evO, vbox, wr, Zeq, if_true, if_false, Nat.reduceEqDiff, Nat.reduceAdd, Nat.reduceLeDiff, Nat.reduceSub, and_self, and_true, true_and, reduceIte, reduceCtorEq, eq_self, implies_true, forall_const, false_implies, imp_self, decide_true, decide_false, fix_nil, fix_cons, g0, g1, g2]
    exact ⟨k3, _, rfl, o3⟩
  rintro i T H4 hi hT ⟨t11, k4, c, t10, o4⟩
  simp only [fix_nil, fix_cons, Zq, evO, vbox, wr, Zeq, if_true, if_false, Nat.reduceEqDiff, Nat.reduceAdd, Nat.reduceLeDiff, Nat.reduceSub, and_self, and_true, true_and, reduceIte, reduceCtorEq, eq_self, implies_true, forall_const, false_implies, imp_self, decide_true, decide_false] at hT
  obtain ⟨t1, t3, t4, t9⟩ := hT
  have k04 := k02.trans k4
  have n4 := k4.nxt
  have g4 := (k4.get H.nxt (by omega)).trans g2
  by_cases hin : i < es.length
  rotate_left
  · obtain rfl : i = es.length := by omega
    have x1 := Sl.noTup_ (o4.sl (fZ_len .i64))
    have x2 := Sl.cells_ (o4.sl (fZ_len .i64))
    simp (maxSteps := 4000000) (disch := omega) only [Zq, evO, vbox, wr, Zeq, if_true, if_false, Nat.reduceEqDiff, Nat.reduceAdd, Nat.reduceLeDiff, Nat.reduceSub, and_self, and_true, true_and, reduceIte, reduceCtorEq, eq_self, implies_true, forall_const, false_implies, imp_self, decide_true, decide_false, fix_nil, fix_cons, g0, g1, g2, t1, t3, t4, t9, t11, t10, g4, lv, x1, x2]
    refine ⟨k04, ?_⟩
    rw [← hll, List.take_length] at o4
    exact (o4.base (H0 := H) (by omega)).ownI
  simp (maxSteps := 4000000) (disch := omega) only [Zq, evO, vbox, wr, Zeq, if_true, if_false, Nat.reduceEqDiff, Nat.reduceAdd, Nat.reduceLeDiff, Nat.reduceSub, and_self, and_true, true_and, reduceIte, reduceCtorEq, eq_self, implies_true, forall_const, false_implies, imp_self, decide_true, decide_false, fix_nil, fix_cons, g0, g1, g2, t1, t3, t4, t9, t11, t10, g4, lv]
  refine G_forF [1, 3, 4, 9, 10, 11] (S.1.length) (fun j T H5 => T 13 = .int .i64 (j : Int) ∧ T 12 = .int .i64 (onE es l (S.1.take j) m i) ∧ Keep H4 H5) 0 (Nat.zero_le _) ?_ ?_
  · simp (maxSteps := 4000000) (disch := omega) only [Zq, evO, vbox, wr, Zeq, if_true, if_false, Nat.reduceEqDiff, Nat.reduceAdd, Nat.reduceLeDiff, Nat.reduceSub, and_self, and_true, true_and, reduceIte, reduceCtorEq, eq_self, implies_true, forall_const, false_implies, imp_self, decide_true, decide_false, fix_nil, fix_cons, g0, g1, g2, t1, t3, t4, t9, t11, t10, g4]
    exact ⟨rfl, Keep.refl _⟩
  rintro j T H5 hj hT ⟨t13, t12, k5⟩
  simp only [fix_nil, fix_cons, Zq, evO, vbox, wr, Zeq, if_true, if_false, Nat.reduceEqDiff, Nat.reduceAdd, Nat.reduceLeDiff, Nat.reduceSub, and_self, and_true, true_and, reduceIte, reduceCtorEq, eq_self, implies_true, forall_const, false_implies, imp_self, decide_true, decide_false, t1, t3, t4, t9, t11, t10] at hT
  obtain ⟨t1, t3, t4, t9, t10, t11⟩ := hT
  have k05 := k04.trans k5
  have k25 := k4.trans k5
  have n5 := k5.nxt
  have g5 := (k5.get H.nxt (by omega)).trans g4
  by_cases hjn : j < S.1.length
  rotate_left
  · obtain rfl : j = S.1.length := by omega
    rw [List.take_length] at t12
    obtain ⟨x, H6, e6, o6, kk6, n6⟩ := NewF.one (bytes := 8) (y := onE es l S.1 m i) (fZ_len .i64) (by omega) (o4.keep k5) (by rw [List.length_take]; omega)
    simp only [fZ] at e6
    simp (maxSteps := 4000000) (disch := omega) only [Zq, evO, vbox, wr, Zeq, if_true, if_false, Nat.reduceEqDiff, Nat.reduceAdd, Nat.reduceLeDiff, Nat.reduceSub, and_self, and_true, true_and, reduceIte, reduceCtorEq, eq_self, implies_true, forall_const, false_implies, imp_self, decide_true, decide_false, fix_nil, fix_cons, g0, g1, g2, t1, t3, t4, t9, t11, t10, g4, t13, t12, g5, lz, e6]
    exact ⟨hin, kk6 H2 (Nat.le_refl _) k25, _, rfl, by rw [hlt i hin]; exact o6⟩
  have ixz := fun H0 : Heap => slc_idx (r := rRun) (H1 := H0) (sz := 4) (i := j) (k := .i64) rfl hz hjn
  have fxz := fun (H0 : Heap) (o off : Nat) => slc_fad (r := rRun) (H1 := H0) (sz := 4) (i := j) (o := o) (off := off) rfl hz hjn
  have hmem : rn S.1 j ∈ S.1 := by rw [rn, getD_get _ _ hjn]; exact List.getElem_mem hjn
  have hgt := g.gt _ hmem
  obtain ⟨p, q, hp, hq, hpl, hql⟩ := g.behind hmem
  have hgk := g.gk p hpl
  have eN := (run_elK hz hjn H5 k25).1
  have cz := run_cel hz hjn
  have hst := onE_take (es := es) (l := l) (m := m) i hjn
  generalize hy : rn S.1 j = y at eN hgt hp hq cz hst
  obtain ⟨a, b, f, t⟩ := y
  simp only [] at eN hgt hp hq cz
  subst hp hq
  have hE : rnE es l ((p : Int), (q : Int), f, t) = lgE es l p q := by simp [rnE]
  rw [on1, hE] at hst
  simp only [] at hst
  have hw : IntKind.i64.wrap (t - 1) = t - 1 := wrap64 (by omega) (by omega)
  simp (maxSteps := 4000000) (disch := omega) only [Zq, evO, vbox, wr, Zeq, if_true, if_false, Nat.reduceEqDiff, Nat.reduceAdd, Nat.reduceLeDiff, Nat.reduceSub, and_self, and_true, true_and, reduceIte, reduceCtorEq, eq_self, implies_true, forall_const, false_implies, imp_self, decide_true, decide_false, fix_nil, fix_cons, g0, g1, g2, t1, t3, t4, t9, t11, t10, g4, t13, t12, g5, lz]
  refine G_tame rfl ?_
  simp (maxSteps := 4000000) (disch := omega) only [Zq, evO, vbox, wr, Zeq, if_true, if_false, Nat.reduceEqDiff, Nat.reduceAdd, Nat.reduceLeDiff, Nat.reduceSub, and_self, and_true, true_and, reduceIte, reduceCtorEq, eq_self, implies_true, forall_const, false_implies, imp_self, decide_true, decide_false, fix_nil, fix_cons, g0, g1, g2, t1, t3, t4, t9, t11, t10, g4, t13, t12, g5, ixz, fxz, eN]
  refine GO_call ((r_spec_l21Edge (n := n) (i := p) (k := q) ((rSlc rEdge).rdk he k05) hl ((rSlc rTrip).rdk hr k05) rok hpl (by omega) f t).mono ?_)
  rintro _ H6 ⟨k6, rfl⟩
  have n6 := k6.nxt
  have k26 := k25.trans k6
  obtain ⟨z0, z1, z2, z3⟩ := cz H6 k26
  by_cases c1 : lgE es l p q = (i : Int)
  rotate_left
  · simp (maxSteps := 4000000) (disch := omega) only [Zq, evO, vbox, wr, Zeq, if_true, if_false, Nat.reduceEqDiff, Nat.reduceAdd, Nat.reduceLeDiff, Nat.reduceSub, and_self, and_true, true_and, reduceIte, reduceCtorEq, eq_self, implies_true, forall_const, false_implies, imp_self, decide_true, decide_false, fix_nil, fix_cons, g0, g1, g2, t1, t3, t4, t9, t11, t10, g4, t13, t12, g5, Zfm c1]
    exact ⟨hjn, by rw [hst, if_neg (fun h => c1 h.1)], k5.trans k6⟩
  simp (maxSteps := 4000000) (disch := omega) only [Zq, evO, vbox, wr, Zeq, if_true, if_false, Nat.reduceEqDiff, Nat.reduceAdd, Nat.reduceLeDiff, Nat.reduceSub, and_self, and_true, true_and, reduceIte, reduceCtorEq, eq_self, implies_true, forall_const, false_implies, imp_self, decide_true, decide_false, fix_nil, fix_cons, g0, g1, g2, t1, t3, t4, t9, t11, t10, g4, t13, t12, g5, Zfl c1, ixz, fxz, z2, z3, hw]
  refine GO_call ((r_spec_l01In m f (t - 1) H6).mono ?_)
  rintro _ H7 ⟨k7, rfl⟩
  have n7 := k7.nxt
  obtain ⟨y0, y1, y2, y3⟩ := cz H7 (k26.trans k7)
  by_cases c2 : f ≤ m ∧ m ≤ t - 1
  · rw [inR_t c2]
    simp (maxSteps := 4000000) (disch := omega) only [Zq, evO, vbox, wr, Zeq, if_true, if_false, Nat.reduceEqDiff, Nat.reduceAdd, Nat.reduceLeDiff, Nat.reduceSub, and_self, and_true, true_and, reduceIte, reduceCtorEq, eq_self, implies_true, forall_const, false_implies, imp_self, decide_true, decide_false, fix_nil, fix_cons, g0, g1, g2, t1, t3, t4, t9, t11, t10, g4, t13, t12, g5, ixz, fxz, y0]
    exact ⟨hjn, by rw [hst, if_pos ⟨c1, c2.1, by omega⟩], k5.trans (k6.trans k7)⟩
  · rw [inR_f c2]
    simp (maxSteps := 4000000) (disch := omega) only [Zq, evO, vbox, wr, Zeq, if_true, if_false, Nat.reduceEqDiff, Nat.reduceAdd, Nat.reduceLeDiff, Nat.reduceSub, and_self, and_true, true_and, reduceIte, reduceCtorEq, eq_self, implies_true, forall_const, false_implies, imp_self, decide_true, decide_false, fix_nil, fix_cons, g0, g1, g2, t1, t3, t4, t9, t11, t10, g4, t13, t12, g5]
    exact ⟨hjn, by rw [hst, if_neg (fun h => c2 ⟨h.2.1, by omega⟩)], k5.trans (k6.trans k7)⟩
theorem r_impl_OnEdges (he : (rSlc rEdge).rd H [v] es) (hl : es.length ≤ 1048576) (hr : (rSlc rTrip).rd H [w] l) (ht : (rSlc rTrip).tot l ≤ 1048576) (hu : (rSlc rInt).rd H [u] la) (hul : la.length ≤ 1048576) (m : Int) : Run Try.prog 27 [.agg #[.int .i64 n, v], w, u, .int .i64 m] H fun r H' => Keep H H' ∧ OwnS rInt H H' r (noOr (dayOk n es l la) (onL es l la m)) := by
  have lv : ∀ H : Heap, vlen H v = some (.int .i64 es.length, H) := fun _ => slc_len he
  refine Run.intro c27 rfl ?_
  simp (maxSteps := 4000000) (disch := omega) only [Zq, evO, vbox, wr, Zeq, if_true, if_false, Nat.reduceEqDiff, Nat.reduceAdd, Nat.reduceLeDiff, Nat.reduceSub, and_self, and_true, true_and, reduceIte, reduceCtorEq, eq_self, implies_true, forall_const, false_implies, imp_self, decide_true, decide_false, x27]
  generalize hG0 : H.push [.int .i64 n, v] = H0
  have k0 : Keep H H0 := by rw [← hG0]; exact Keep.push _ _
  have g0 : H0.get H.nxt = some (.own [.int .i64 n, v]) := by rw [← hG0, push_get', if_pos rfl]
  have n0 : H0.nxt = H.nxt + 1 := by rw [← hG0, Zbg]
  refine GO_call ((r_impl_DayOk (n := n) ((rSlc rEdge).rdk he k0) hl ((rSlc rTrip).rdk hr k0) ht ((rSlc rInt).rdk hu k0) hul).mono ?_)
  rintro _ H1 ⟨k1, rfl⟩
  have n1 := k1.nxt
  have g1 := (k1.get (H.nxt) (by omega)).trans g0
  have k01 := k0.trans k1
  cases ok : dayOk n es l la with
  | false =>
    simp (maxSteps := 4000000) (disch := omega) only [Zq, evO, vbox, wr, Zeq, if_true, if_false, Nat.reduceEqDiff, Nat.reduceAdd, Nat.reduceLeDiff, Nat.reduceSub, and_self, and_true, true_and, reduceIte, reduceCtorEq, eq_self, implies_true, forall_const, false_implies, imp_self, decide_true, decide_false, fix_nil, fix_cons, g0, g1, ok]
    exact ⟨k01, own_nil⟩
  | true =>
  obtain ⟨d, rok⟩ := dy_of ok
  have l60 := d.d7
  rw [noOr, if_pos rfl]
  simp (maxSteps := 4000000) (disch := omega) only [Zq, evO, vbox, wr, Zeq, if_true, if_false, Nat.reduceEqDiff, Nat.reduceAdd, Nat.reduceLeDiff, Nat.reduceSub, and_self, and_true, true_and, reduceIte, reduceCtorEq, eq_self, implies_true, forall_const, false_implies, imp_self, decide_true, decide_false, fix_nil, fix_cons, g0, g1, ok, lv]
  generalize hG2 : H1.push (List.replicate es.length [Value.int .i64 0]).flatten = H2
  have k2 : Keep H1 H2 := by rw [← hG2]; exact Keep.push _ _
  have n2 : H2.nxt = H1.nxt + 1 := by rw [← hG2, Zbg]
  obtain ⟨cv, hcv⟩ : ∃ cv, cv = Value.slice (some ⟨H1.nxt, 0, none⟩) es.length 1 := ⟨_, rfl⟩
  have oc2 : NewI H1 H2 cv (List.replicate es.length 0) := ⟨H1.nxt, Nat.le_refl _, by omega, by rw [hcv, List.length_replicate], by rw [← hG2, push_get', if_pos rfl, fcZ]; congr 2; induction es.length with | zero => rfl | succ n ih => simp [List.replicate_succ, ih]⟩
  have hcb : blk cv = H1.nxt := by rw [hcv]; rfl
  rw [← hcv]
  have g2 := (k2.get H.nxt (by omega)).trans g1
  clear hG2
  refine G_forF [1, 2, 3, 4, 9, 24] (es.length) (fun i T H3 => T 25 = .int .i64 (i : Int) ∧ Chg [H1.nxt] H2 H3 ∧ ∃ E, NewI H1 H3 cv E ∧ E.length = es.length ∧ ∀ j, j < i → gi E j = -1) 0 (Nat.zero_le _) ?_ ?_
  · simp (maxSteps := 4000000) (disch := omega) only [Zq, evO, vbox, wr, Zeq, if_true, if_false, Nat.reduceEqDiff, Nat.reduceAdd, Nat.reduceLeDiff, Nat.reduceSub, and_self, and_true, true_and, reduceIte, reduceCtorEq, eq_self, implies_true, forall_const, false_implies, imp_self, decide_true, decide_false, fix_nil, fix_cons, g0, g1, g2]
    exact ⟨Chg.refl _ _, _, oc2, by simp, fun j hj => by omega⟩
  rintro i T H3 hi hT ⟨t25, c3, E, o3, lE, hE⟩
  simp only [fix_nil, fix_cons, Zq, evO, vbox, wr, Zeq, if_true, if_false, Nat.reduceEqDiff, Nat.reduceAdd, Nat.reduceLeDiff, Nat.reduceSub, and_self, and_true, true_and, reduceIte, reduceCtorEq, eq_self, implies_true, forall_const, false_implies, imp_self, decide_true, decide_false] at hT
  obtain ⟨t1, t2, t3, t4, t9, t24⟩ := hT
  have n3 := c3.nxt
  have k03 := c3.keep (k01.trans k2) (fun i hi => by simp at hi; omega)
  have g3 := (c3.get H.nxt (by omega) (by simp; omega)).trans g2
  by_cases hin : i < es.length
  · obtain ⟨H4, e4, o4, kk4, n4, on4⟩ := NewF.st2 (i := i) (x := .int .i64 (-1)) (y := -1) (fZ_len .i64) o3 rfl rfl (by omega)
    have ixc : ∀ H0 : Heap, vidx H0 1 cv (.int .i64 (i : Int)) = some (adr cv i 1 0, H0) := fun H0 => (o3.sl (fZ_len .i64)).idx (by omega)
    simp (maxSteps := 4000000) (disch := omega) only [Zq, evO, vbox, wr, Zeq, if_true, if_false, Nat.reduceEqDiff, Nat.reduceAdd, Nat.reduceLeDiff, Nat.reduceSub, and_self, and_true, true_and, reduceIte, reduceCtorEq, eq_self, implies_true, forall_const, false_implies, imp_self, decide_true, decide_false, fix_nil, fix_cons, g0, g1, g2, t1, t2, t3, t4, t9, t24, t25, g3, ixc, e4]
    refine ⟨hin, c3.trans ⟨by omega, fun a ha hne => on4 a (by simpa [hcb] using hne)⟩, _, o4, by rw [List.length_set, lE], fun j hj => ?_⟩
    rw [gi_set (by omega)]
    by_cases e : j = i
    · rw [if_pos e]
    · rw [if_neg e]; exact hE j (by omega)
  obtain rfl : i = es.length := by omega
  have k23 : Keep H1 H3 := c3.keep k2 (fun i hi => by simp at hi; omega)
  simp (maxSteps := 4000000) (disch := omega) only [Zq, evO, vbox, wr, Zeq, if_true, if_false, Nat.reduceEqDiff, Nat.reduceAdd, Nat.reduceLeDiff, Nat.reduceSub, and_self, and_true, true_and, reduceIte, reduceCtorEq, eq_self, implies_true, forall_const, false_implies, imp_self, decide_true, decide_false, fix_nil, fix_cons, g0, g1, g2, t1, t2, t3, t4, t9, t24, t25, g3]
  refine GO_call ((r_play (n := n) d ((rSlc rEdge).rdk he k03) ((rSlc rTrip).rdk hr k03) ((rSlc rInt).rdk hu k03)).mono ?_)
  rintro r5 H5 hp
  obtain ⟨q, R, A, B, C, D, rfl, hq, g5, k5, F, hF, fF⟩ := hp.runs
  obtain ⟨S, g, hf, ep⟩ := pday_fact d
  have hlen := gd_len d g
  have hoe := fun (o : List Int) (hl : o.length = es.length) => on_ext (es := es) (l := l) (la := la) (m := m) hl
  simp only [ep] at hF hoe g5
  have k05 := k03.trans k5
  have n5 := k5.nxt
  have lR : ∀ H : Heap, vlen H R = some (.int .i64 S.1.length, H) := fun _ => slc_len ((rSlc rRun).ownrd hF)
  simp (maxSteps := 4000000) (disch := omega) only [Zq, evO, vbox, wr, Zeq, if_true, if_false, Nat.reduceEqDiff, Nat.reduceAdd, Nat.reduceLeDiff, Nat.reduceSub, and_self, and_true, true_and, reduceIte, reduceCtorEq, eq_self, implies_true, forall_const, false_implies, imp_self, decide_true, decide_false, fix_nil, fix_cons, g0, g1, g2, t1, t2, t3, t4, t9, t24, t25, g3, g5, g5, lR]
  refine G_forF [3, 9, 11, 39, 40] (S.1.length) (fun j T H6 => T 41 = .int .i64 (j : Int) ∧ Chg [H1.nxt] H5 H6 ∧ ∃ E, NewI H1 H6 cv E ∧ E.length = es.length ∧ ∀ e, e < es.length → gi E e = onE es l (S.1.take j) m e) 0 (Nat.zero_le _) ?_ ?_
  · simp (maxSteps := 4000000) (disch := omega) only [Zq, evO, vbox, wr, Zeq, if_true, if_false, Nat.reduceEqDiff, Nat.reduceAdd, Nat.reduceLeDiff, Nat.reduceSub, and_self, and_true, true_and, reduceIte, reduceCtorEq, eq_self, implies_true, forall_const, false_implies, imp_self, decide_true, decide_false, fix_nil, fix_cons, g0, g1, g2, t1, t2, t3, t4, t9, t24, t25, g3, g5]
    exact ⟨Chg.refl _ _, _, o3.keep k5, lE, hE⟩
  rintro j T H6 hj hT ⟨t41, c6, E6, o6, lE6, hE6⟩
  simp only [fix_nil, fix_cons, Zq, evO, vbox, wr, Zeq, if_true, if_false, Nat.reduceEqDiff, Nat.reduceAdd, Nat.reduceLeDiff, Nat.reduceSub, and_self, and_true, true_and, reduceIte, reduceCtorEq, eq_self, implies_true, forall_const, false_implies, imp_self, decide_true, decide_false, t1, t2, t3, t4, t9, t24, t25] at hT
  obtain ⟨t3, t9, t11, t39, t40⟩ := hT
  have n6 := c6.nxt
  have k06 := c6.keep k05 (fun i hi => by simp at hi; omega)
  have g6 := (c6.get q (by have := hp.lt; omega) (by simp; omega)).trans g5
  by_cases hjn : j < S.1.length
  rotate_left
  · obtain rfl : j = S.1.length := by omega
    rw [List.take_length] at hE6
    have x1 := Sl.noTup_ (o6.sl (fZ_len .i64))
    have x2 := Sl.cells_ (o6.sl (fZ_len .i64))
    simp (maxSteps := 4000000) (disch := omega) only [Zq, evO, vbox, wr, Zeq, if_true, if_false, Nat.reduceEqDiff, Nat.reduceAdd, Nat.reduceLeDiff, Nat.reduceSub, and_self, and_true, true_and, reduceIte, reduceCtorEq, eq_self, implies_true, forall_const, false_implies, imp_self, decide_true, decide_false, fix_nil, fix_cons, g0, g1, g2, t1, t2, t3, t4, t9, t24, t25, g3, g5, t11, t39, t40, t41, g6, x1, x2]
    exact ⟨k06, by rw [← hoe E6 lE6 hE6]; exact (o6.base (H0 := H) (by omega)).ownI⟩
  have hz := (rSlc rRun).ownrd ((rSlc rRun).ownChg hF c6 (fun a ha hm => by have := fF.2 a ha; simp at hm; omega))
  have ixz := fun H0 : Heap => slc_idx (r := rRun) (H1 := H0) (sz := 4) (i := j) (k := .i64) rfl hz hjn
  have hmem : rn S.1 j ∈ S.1 := by rw [rn, getD_get _ _ hjn]; exact List.getElem_mem hjn
  have hgt := g.gt _ hmem
  obtain ⟨p, k, hp1, hq1, hpl, hql⟩ := g.behind hmem
  have hgk := g.gk p hpl
  have eR := (run_elK hz hjn H6 (Keep.refl _)).1
  have hst := fun e => onE_take (es := es) (l := l) (m := m) e hjn
  generalize hy : rn S.1 j = y at eR hgt hp1 hq1 hst
  obtain ⟨a, b, f, t⟩ := y
  simp only [] at eR hgt hp1 hq1
  subst hp1 hq1
  have hrE : rnE es l ((p : Int), (k : Int), f, t) = lgE es l p k := by simp [rnE]
  simp only [on1, hrE] at hst
  simp (maxSteps := 4000000) (disch := omega) only [Zq, evO, vbox, wr, Zeq, if_true, if_false, Nat.reduceEqDiff, Nat.reduceAdd, Nat.reduceLeDiff, Nat.reduceSub, and_self, and_true, true_and, reduceIte, reduceCtorEq, eq_self, implies_true, forall_const, false_implies, imp_self, decide_true, decide_false, fix_nil, fix_cons, g0, g1, g2, t1, t2, t3, t4, t9, t24, t25, g3, g5, t11, t39, t40, t41, g6, ixz, eR]
  generalize hG7 : (H6.push [.int .i64 0, .int .i64 0, .int .i64 0, .int .i64 0]).set H6.nxt [.int .i64 p, .int .i64 k, .int .i64 f, .int .i64 t] = H7
  have k7 : Keep H6 H7 := by rw [← hG7]; repeat' (first | exact Keep.refl _ | assumption | refine Keep.push' ?_ | refine Keep.set' ?_ ?_ | refine Keep.moved' ?_ ?_ | omega)
  have g7 : H7.get H6.nxt = some (.own [.int .i64 p, .int .i64 k, .int .i64 f, .int .i64 t]) := by rw [← hG7, Zbi, if_pos rfl]
  have n7 : H7.nxt = H6.nxt + 1 := by rw [← hG7, Zbh, Zbg]
  have k07 := k06.trans k7
  have g7p := (k7.get q (by have := hp.lt; omega)).trans g6
  have o7 := o6.keep k7
  by_cases c1 : f ≤ m
  rotate_left
  · simp (maxSteps := 4000000) (disch := omega) only [Zq, evO, vbox, wr, Zeq, if_true, if_false, Nat.reduceEqDiff, Nat.reduceAdd, Nat.reduceLeDiff, Nat.reduceSub, and_self, and_true, true_and, reduceIte, reduceCtorEq, eq_self, implies_true, forall_const, false_implies, imp_self, decide_true, decide_false, fix_nil, fix_cons, g0, g1, g2, t1, t2, t3, t4, t9, t24, t25, g3, g5, t11, t39, t40, t41, g6, g7, g7p, Zfk c1]
    exact ⟨hjn, c6.trans k7.chg, E6, o7, lE6, fun e he => by rw [hst, if_neg (fun h => c1 h.2.1)]; exact hE6 e he⟩
  by_cases c2 : m < t
  rotate_left
  · simp (maxSteps := 4000000) (disch := omega) only [Zq, evO, vbox, wr, Zeq, if_true, if_false, Nat.reduceEqDiff, Nat.reduceAdd, Nat.reduceLeDiff, Nat.reduceSub, and_self, and_true, true_and, reduceIte, reduceCtorEq, eq_self, implies_true, forall_const, false_implies, imp_self, decide_true, decide_false, fix_nil, fix_cons, g0, g1, g2, t1, t2, t3, t4, t9, t24, t25, g3, g5, t11, t39, t40, t41, g6, g7, g7p, Zfj c1, Zfi c2]
    exact ⟨hjn, c6.trans k7.chg, E6, o7, lE6, fun e he => by rw [hst, if_neg (fun h => c2 h.2.2)]; exact hE6 e he⟩
  simp (maxSteps := 4000000) (disch := omega) only [Zq, evO, vbox, wr, Zeq, if_true, if_false, Nat.reduceEqDiff, Nat.reduceAdd, Nat.reduceLeDiff, Nat.reduceSub, and_self, and_true, true_and, reduceIte, reduceCtorEq, eq_self, implies_true, forall_const, false_implies, imp_self, decide_true, decide_false, fix_nil, fix_cons, g0, g1, g2, t1, t2, t3, t4, t9, t24, t25, g3, g5, t11, t39, t40, t41, g6, g7, g7p, Zfj c1, Zfh c2]
  simp (maxSteps := 4000000) (disch := omega) only [ZD, Zio, Zip, pre_, beq_self_eq_true, Nat.reduceBEq, Zq, evO, vbox, wr, Zeq, if_true, if_false, Nat.reduceEqDiff, Nat.reduceAdd, Nat.reduceLeDiff, Nat.reduceSub, and_self, and_true, true_and, reduceIte, reduceCtorEq, eq_self, implies_true, forall_const, false_implies, imp_self, decide_true, decide_false, fix_nil, fix_cons, g0, g1, g2, t1, t2, t3, t4, t9, t24, t25, g3, g5, t11, t39, t40, t41, g6, g7, g7p, G_dreg]
  have h12 := d.d1 p hpl
  have h4 := d.d4 p k hpl (by omega)
  refine GD_call ((r_impl_edge (I := .bool true) (n := n) (i := p) (k := k) ((rSlc rEdge).rdk he k07) hl ((rSlc rTrip).rdk hr k07) g7p h12.2 hpl (by omega)).mono ?_)
  rintro _ H8 ⟨k8, rfl⟩
  have n8 := k8.nxt
  have g8 := (k8.get H6.nxt (by omega)).trans g7
  obtain ⟨ee, hee⟩ : ∃ ee : Nat, lgE es l p k = ee := ⟨(lgE es l p k).toNat, by omega⟩
  rw [hee] at h4 hst ⊢
  have o8 := o7.keep k8
  obtain ⟨H9, e9, o9, kk9, n9, on9⟩ := NewF.st2 (i := ee) (x := .int .i64 (p : Int)) (y := (p : Int)) (fZ_len .i64) o8 rfl rfl (by omega)
  have ixc : ∀ H0 : Heap, vidx H0 1 cv (.int .i64 (ee : Int)) = some (adr cv ee 1 0, H0) := fun H0 => (o8.sl (fZ_len .i64)).idx (by omega)
  have txc : ∀ ix : Nat, trL ix (adr cv ee 1 0) = [.L ix H1.nxt] := fun ix => by rw [← hcb]; exact (o8.sl (fZ_len .i64)).trL (by omega)
  simp (maxSteps := 4000000) (disch := omega) only [ZD, Zio, Zip, pre_, beq_self_eq_true, Nat.reduceBEq, Zq, evO, vbox, wr, Zeq, if_true, if_false, Nat.reduceEqDiff, Nat.reduceAdd, Nat.reduceLeDiff, Nat.reduceSub, and_self, and_true, true_and, reduceIte, reduceCtorEq, eq_self, implies_true, forall_const, false_implies, imp_self, decide_true, decide_false, fix_nil, fix_cons, g0, g1, g2, t1, t2, t3, t4, t9, t24, t25, g3, g5, t11, t39, t40, t41, g6, g7, g7p, g8, ixc, e9, txc]
  refine ⟨hjn, c6.trans (k7.chg.trans (k8.chg.trans ⟨by omega, fun a ha hne => on9 a (by simpa [hcb] using hne)⟩)), _, o9, by rw [List.length_set, lE6], fun e he => ?_⟩
  rw [gi_set (by omega), hst]
  by_cases x : e = ee
  · rw [if_pos x, if_pos ⟨by rw [x], c1, c2⟩]
  · rw [if_neg x, if_neg (fun h => x (by have := h.1; omega))]
    exact hE6 e he
end
end Go.Proofs.Ytjjglonmaajjoaa.AX
