/- A plan that keeps trips apart is the day; how late trips come: the law's run. No condition; of the program: the functions' forms. -/
import Derived.Test.YtjjglonmaajjoaaPfa
import Derived.Test.YtjjglonmaajjoaaDw6
import Derived.Test.YtjjglonmaajjoaaPdm
import Derived.Test.YtjjglonmaajjoaaApc
import Derived.Test.YtjjglonmaajjoaaPna
import Derived.Test.YtjjglonmaajjoaaPdw
import Derived.Test.YtjjglonmaajjoaaPdt
import Derived.Test.YtjjglonmaajjoaaPdu
namespace Go.Proofs.Ytjjglonmaajjoaa.AX
open Go
set_option maxRecDepth 10000
set_option maxHeartbeats 4000000
set_option linter.unusedSimpArgs false
set_option linter.unusedVariables false
theorem vcmp_same {H : Heap} {a b c d : Int} : vcmp H true [(0, 1), (1, 1), (2, 1), (3, 1)] (.agg #[.int .i64 a, .int .i64 b, .int .i64 c, .int .i64 d]) (.agg #[.int .i64 a, .int .i64 b, .int .i64 c, .int .i64 d]) = some (.bool false, H) := by
  simp [vcmp, ceqs, ceq]
theorem r_laws_sameRuns {H : Heap} {v w : Value} {rs : List Rn} (hv : (rSlc rRun).rd H [v] rs) (hw : (rSlc rRun).rd H [w] rs) (hl : rs.length ≤ 1000) : Run Try.prog 19 [v, w] H fun r H' => Keep H H' ∧ r = .bool true := by
  have lv : ∀ H : Heap, vlen H v = some (.int .i64 rs.length, H) := fun _ => slc_len hv
  have lw : ∀ H : Heap, vlen H w = some (.int .i64 rs.length, H) := fun _ => slc_len hw
  refine Run.intro c19 rfl ?_
  simp (maxSteps := 4000000) (disch := omega) only [Zq, evO, vbox, wr, Zeq, if_true, if_false, Nat.reduceEqDiff, Nat.reduceAdd, Nat.reduceLeDiff, Nat.reduceSub, and_self, and_true, true_and, reduceIte, reduceCtorEq, eq_self, implies_true, forall_const, false_implies, imp_self, decide_true, decide_false, x19, lv, lw]
  refine G_forF [0, 1] (rs.length) (fun i T H1 => T 5 = .int .i64 (i : Int) ∧ H1 = H) 0 (Nat.zero_le _) ?_ ?_
  · simp (maxSteps := 4000000) (disch := omega) only [Zq, evO, vbox, wr, Zeq, if_true, if_false, Nat.reduceEqDiff, Nat.reduceAdd, Nat.reduceLeDiff, Nat.reduceSub, and_self, and_true, true_and, reduceIte, reduceCtorEq, eq_self, implies_true, forall_const, false_implies, imp_self, decide_true, decide_false, fix_nil, fix_cons]
  rintro i T H1 hi hT ⟨t5, rfl⟩
  simp only [fix_nil, fix_cons, Zq, evO, vbox, wr, Zeq, if_true, if_false, Nat.reduceEqDiff, Nat.reduceAdd, Nat.reduceLeDiff, Nat.reduceSub, and_self, and_true, true_and, reduceIte, reduceCtorEq, eq_self, implies_true, forall_const, false_implies, imp_self, decide_true, decide_false] at hT
  obtain ⟨t0, t1⟩ := hT
  by_cases hin : i < rs.length
  · have ixv := fun H0 : Heap => slc_idx (r := rRun) (H1 := H0) (sz := 4) (i := i) (k := .i64) rfl hv hin
    have ixw := fun H0 : Heap => slc_idx (r := rRun) (H1 := H0) (sz := 4) (i := i) (k := .i64) rfl hw hin
    have ev := (run_elK hv hin H1 (Keep.refl _)).1
    have ew := (run_elK hw hin H1 (Keep.refl _)).1
    simp (maxSteps := 4000000) (disch := omega) only [Zq, evO, vbox, wr, Zeq, if_true, if_false, Nat.reduceEqDiff, Nat.reduceAdd, Nat.reduceLeDiff, Nat.reduceSub, and_self, and_true, true_and, reduceIte, reduceCtorEq, eq_self, implies_true, forall_const, false_implies, imp_self, decide_true, decide_false, fix_nil, fix_cons, t0, t1, t5, lv]
    refine G_calm rfl ?_
    simp (maxSteps := 4000000) (disch := omega) only [Zq, evO, vbox, wr, Zeq, if_true, if_false, Nat.reduceEqDiff, Nat.reduceAdd, Nat.reduceLeDiff, Nat.reduceSub, and_self, and_true, true_and, reduceIte, reduceCtorEq, eq_self, implies_true, forall_const, false_implies, imp_self, decide_true, decide_false, fix_nil, fix_cons, t0, t1, t5, ixv, ixw, ev, ew, GO_cmp, vcmp_same]
    exact hin
  obtain rfl : i = rs.length := by omega
  simp (maxSteps := 4000000) (disch := omega) only [Zq, evO, vbox, wr, Zeq, if_true, if_false, Nat.reduceEqDiff, Nat.reduceAdd, Nat.reduceLeDiff, Nat.reduceSub, and_self, and_true, true_and, reduceIte, reduceCtorEq, eq_self, implies_true, forall_const, false_implies, imp_self, decide_true, decide_false, fix_nil, fix_cons, t0, t1, t5, lv]
  exact Keep.refl _
theorem mapsum_le {α : Type} {f : α → Nat} {b : Nat} : ∀ {xs : List α}, (∀ x ∈ xs, f x ≤ b) → (xs.map f).sum ≤ b * xs.length
  | [], _ => by simp
  | x :: xs, h => by
    have h1 := h x (by simp)
    have h2 := mapsum_le (f := f) (b := b) (xs := xs) (fun y hy => h y (by simp [hy]))
    rw [List.map_cons, List.sum_cons, List.length_cons, Nat.mul_add, Nat.mul_one]
    omega
theorem trips_tot {n : Int} {es : List Ed} {l : List Tp} (h : ridden n es l = true) : (rSlc rTrip).tot l ≤ 1048576 := by
  obtain ⟨_, h24, htp, _⟩ := ridden_get h
  have key : ∀ x ∈ l, rTrip.tot x ≤ 100 := fun x hx => by
    obtain ⟨i, hi, rfl⟩ := List.mem_iff_getElem.1 hx
    have := htp i hi
    rw [tp, getD_get _ _ hi] at this
    generalize l[i] = t at this
    obtain ⟨s, cs⟩ := t
    rw [trip_tot, flat_tot]
    simp only [tpOk, nmOk, Bool.and_eq_true, inR_iff] at this
    omega
  have := mapsum_le (f := rTrip.tot) key
  show l.length + (l.map rTrip.tot).sum ≤ _
  omega
theorem z0_gi (l : List Tp) (i : Nat) : gi (z0 l) i = 0 := by
  rw [gi, z0, List.getD_eq_getElem?_getD, List.getElem?_replicate]
  split <;> rfl
theorem z0_len (l : List Tp) : (z0 l).length = l.length := by rw [z0, List.length_replicate]
theorem still_ok {n : Int} {es : List Ed} {l : List Tp} {la : List Int} (h : dayOk n es l la = true) : dayOk n es l (z0 l) = true := by
  simp only [dayOk, Bool.and_eq_true, decide_eq_true_eq, allTo_iff] at h ⊢
  obtain ⟨h1, h2, h3⟩ := h
  refine ⟨h1, z0_len l, fun i hi => ?_⟩
  have e : (z0 l).getD i 0 = 0 := z0_gi l i
  rw [e]
  exact inR_iff.2 (by omega)
theorem cnt_all {b : Int} {xs : List Int} (h : ∀ x ∈ xs, x ≤ b) : cntL b xs = xs.length := by
  rw [cntL, List.filter_eq_self.2 (fun x hx => by simpa using h x hx)]
theorem plan_len {l : List Tp} (h : ∀ i, i < l.length → (tp l i).2.length ≤ 12) : (planL l).length ≤ 11 * l.length := by
  rw [planL, (planR_perm _).length_eq]
  exact allR_len h
theorem spr_bd {es : List Ed} {l : List Tp} {la : List Int} (d : Dy es l la) {i : Nat} (hi : i < l.length) : ∀ k, k < (tp l i).2.length → 0 ≤ spr l i k ∧ spr l i k ≤ 100000 * (k : Int)
  | 0, _ => by simp [spr]
  | k + 1, h => by
    have h1 := spr_bd d hi k (by omega)
    have h2 := d.d2 i (k + 1) hi h
    rw [spr]
    omega
theorem r_laws_FnPlan {H : Heap} {v0 : Value} {code : List Int} (h : Bts' H v0 code) (hc : ∀ x ∈ code, 0 ≤ x ∧ x ≤ 255) : Run Try.prog 3 [v0] H fun r _ => r = .bool true := by
  refine Run.intro c3 rfl ?_
  simp (maxSteps := 4000000) (disch := omega) only [Zq, evO, vbox, wr, Zeq, if_true, if_false, Nat.reduceEqDiff, Nat.reduceAdd, Nat.reduceLeDiff, Nat.reduceSub, and_self, and_true, true_and, reduceIte, reduceCtorEq, eq_self, implies_true, forall_const, false_implies, imp_self, decide_true, decide_false, x3]
  refine GO_call ((r_laws_big h).mono ?_)
  rintro _ H1 ⟨k1, rfl⟩
  by_cases hl : code.length ≤ 1048576
  rotate_left
  · simp (maxSteps := 4000000) (disch := omega) only [Zq, evO, vbox, wr, Zeq, if_true, if_false, Nat.reduceEqDiff, Nat.reduceAdd, Nat.reduceLeDiff, Nat.reduceSub, and_self, and_true, true_and, reduceIte, reduceCtorEq, eq_self, implies_true, forall_const, false_implies, imp_self, decide_true, decide_false, fix_nil, fix_cons]
  simp (maxSteps := 4000000) (disch := omega) only [Zq, evO, vbox, wr, Zeq, if_true, if_false, Nat.reduceEqDiff, Nat.reduceAdd, Nat.reduceLeDiff, Nat.reduceSub, and_self, and_true, true_and, reduceIte, reduceCtorEq, eq_self, implies_true, forall_const, false_implies, imp_self, decide_true, decide_false, fix_nil, fix_cons]
  refine GO_call ((r_spec_DrawRightDay (IntsK.keep h k1) hl hc).mono ?_)
  rintro _ H2 ⟨k2, N, vn, es, w, l, u, la, rfl, he, hr, hu, hel, hll, hcl, ok⟩
  obtain ⟨d, rok⟩ := dy_of ok
  have okz := still_ok ok
  obtain ⟨dz, _⟩ := dy_of okz
  have htl := trips_tot rok
  have lw : ∀ H : Heap, vlen H w = some (.int .i64 l.length, H) := fun _ => slc_len hr
  obtain ⟨ce, se⟩ := slc_sl (sz := 4) (r := rEdge) rfl he
  have ne := Sl.noTup_ se
  have ve := Sl.cells_ se
  simp (maxSteps := 4000000) (disch := omega) only [Zq, evO, vbox, wr, Zeq, if_true, if_false, Nat.reduceEqDiff, Nat.reduceAdd, Nat.reduceLeDiff, Nat.reduceSub, and_self, and_true, true_and, reduceIte, reduceCtorEq, eq_self, implies_true, forall_const, false_implies, imp_self, decide_true, decide_false, fix_nil, fix_cons, ne, ve, lw]
  generalize hG3 : (H2.push [.int .i64 0, .slice none 0 0]).set H2.nxt [.int .i64 (N : Int), vn] = H3
  have k3 : Keep H2 H3 := by rw [← hG3]; repeat' (first | exact Keep.refl _ | assumption | refine Keep.push' ?_ | refine Keep.set' ?_ ?_ | refine Keep.moved' ?_ ?_ | omega)
  have g3 : H3.get H2.nxt = some (.own [.int .i64 (N : Int), vn]) := by rw [← hG3, Zbi, if_pos rfl]
  have n3 : H3.nxt = H2.nxt + 1 := by rw [← hG3, Zbh, Zbg]
  generalize hGa : H3.push (List.replicate l.length [Value.int .i64 0]).flatten = H4
  have k4 : Keep H3 H4 := by rw [← hGa]; exact Keep.push _ _
  have n4 : H4.nxt = H3.nxt + 1 := by rw [← hGa, Zbg]
  have rf : (List.replicate l.length [Value.int .i64 0]).flatten = (List.replicate l.length 0).map (Value.int .i64) := by
    induction l.length with
    | zero => rfl
    | succ n ih => simp [List.replicate_succ, ih]
  obtain ⟨cv, hcv⟩ : ∃ cv, cv = Value.slice (some ⟨H3.nxt, 0, none⟩) l.length 1 := ⟨_, rfl⟩
  have oa : NewI H3 H4 cv (z0 l) := ⟨H3.nxt, Nat.le_refl _, by omega, by rw [hcv, z0, List.length_replicate], by rw [← hGa, push_get', if_pos rfl, fcZ, rf, z0]⟩
  have hcz := oa.ownI.rd
  rw [n3] at hcv
  rw [← hcv]
  clear hGa oa hcv
  have g4 := (k4.get H2.nxt (by omega)).trans g3
  have k24 := k3.trans k4
  have hzl := z0_len l
  have hpl := plan_len (l := l) (fun i hi => by have := hcl i hi; omega)
  have hpm : (planR (allR l l.length)).length ≤ 11 * l.length := hpl
  refine GO_call ((r_impl_Planned (n := (N : Int)) ((rSlc rEdge).rdk he k24) (by omega) ((rSlc rTrip).rdk hr k24) htl).mono ?_)
  rintro p H5 ⟨k5, op⟩
  have n5 := k5.nxt
  have g5 := (k5.get (H2.nxt) (by omega)).trans g4
  rw [if_pos rok] at op
  have hp := op.rd
  have k25 := k24.trans k5
  simp (maxSteps := 4000000) (disch := omega) only [Zq, evO, vbox, wr, Zeq, if_true, if_false, Nat.reduceEqDiff, Nat.reduceAdd, Nat.reduceLeDiff, Nat.reduceSub, and_self, and_true, true_and, reduceIte, reduceCtorEq, eq_self, implies_true, forall_const, false_implies, imp_self, decide_true, decide_false, fix_nil, fix_cons, g3, g4, g5]
  refine GO_call ((r_impl_PlayDay (n := (N : Int)) ((rSlc rEdge).rdk he k25) (by omega) ((rSlc rTrip).rdk hr k25) htl ((rSlc rInt).rdk hcz k5) (by omega)).mono ?_)
  rintro z H6 ⟨k6, oz⟩
  have n6 := k6.nxt
  have g6 := (k6.get (H2.nxt) (by omega)).trans g5
  rw [noOr, if_pos okz] at oz
  have hz := oz.rd
  have k26 := k25.trans k6
  simp (maxSteps := 4000000) (disch := omega) only [Zq, evO, vbox, wr, Zeq, if_true, if_false, Nat.reduceEqDiff, Nat.reduceAdd, Nat.reduceLeDiff, Nat.reduceSub, and_self, and_true, true_and, reduceIte, reduceCtorEq, eq_self, implies_true, forall_const, false_implies, imp_self, decide_true, decide_false, fix_nil, fix_cons, g3, g4, g5, g6]
  refine GO_call ((r_impl_Apart (n := (N : Int)) ((rSlc rEdge).rdk he k26) (by omega) ((rSlc rTrip).rdk hr k26) htl ((rSlc rRun).rdk hp k6) (by omega)).mono ?_)
  rintro _ H7 ⟨k7, rfl⟩
  have n7 := k7.nxt
  have g7 := (k7.get (H2.nxt) (by omega)).trans g6
  have k27 := k26.trans k7
  have n27 : H2.nxt < H7.nxt := by have := k4.nxt; have := k5.nxt; have := k6.nxt; have := k7.nxt; omega
  simp (maxSteps := 4000000) (disch := omega) only [Zq, evO, vbox, wr, Zeq, if_true, if_false, Nat.reduceEqDiff, Nat.reduceAdd, Nat.reduceLeDiff, Nat.reduceSub, and_self, and_true, true_and, reduceIte, reduceCtorEq, eq_self, implies_true, forall_const, false_implies, imp_self, decide_true, decide_false, fix_nil, fix_cons, g3, g4, g5, g6, g7]
  first | refine cK_cut (fun T HE => T 3 = ptr H2.nxt 0 ∧ T 4 = w ∧ T 5 = u ∧ Keep H7 HE) ?_ ?_ | refine G_cut (fun T HE => T 3 = ptr H2.nxt 0 ∧ T 4 = w ∧ T 5 = u ∧ Keep H7 HE) ?_ ?_ | refine GO_cut (fun T HE => T 3 = ptr H2.nxt 0 ∧ T 4 = w ∧ T 5 = u ∧ Keep H7 HE) ?_ ?_
  · cases ha : apart (N : Int) es l (planL l) with
    | false =>
      simp (maxSteps := 4000000) (disch := omega) only [Zq, evO, vbox, wr, Zeq, if_true, if_false, Nat.reduceEqDiff, Nat.reduceAdd, Nat.reduceLeDiff, Nat.reduceSub, and_self, and_true, true_and, reduceIte, reduceCtorEq, eq_self, implies_true, forall_const, false_implies, imp_self, decide_true, decide_false, fix_nil, fix_cons, g3, g4, g5, g6, g7, ha]
      exact Keep.refl _
    | true =>
    obtain ⟨e1, e2, e3⟩ := plan_day dz (fun i => z0_gi l i) ha
    rw [e1] at hz
    have hw0 : waitO (N : Int) es l (z0 l) = 0 := by rw [waitO, if_pos okz, e2]
    have hp0 : punO (N : Int) es l (z0 l) 0 = l.length := by
      rw [punO, if_pos okz, cnt_all (fun x hx => ?_), latL_len]
      obtain ⟨i, hi, rfl⟩ := List.mem_map.1 hx
      rw [e3 i (List.mem_range.1 hi)]
      omega
    simp (maxSteps := 4000000) (disch := omega) only [Zq, evO, vbox, wr, Zeq, if_true, if_false, Nat.reduceEqDiff, Nat.reduceAdd, Nat.reduceLeDiff, Nat.reduceSub, and_self, and_true, true_and, reduceIte, reduceCtorEq, eq_self, implies_true, forall_const, false_implies, imp_self, decide_true, decide_false, fix_nil, fix_cons, g3, g4, g5, g6, g7, ha]
    refine GO_call ((r_laws_sameRuns ((rSlc rRun).rdk hp (k6.trans k7)) ((rSlc rRun).rdk hz k7) (by omega)).mono ?_)
    rintro _ H8 ⟨k8, rfl⟩
    have n8 := k8.nxt
    have g8 := (k8.get (H2.nxt) (by omega)).trans g7
    have k28 := k27.trans k8
    have k48 := k5.trans (k6.trans (k7.trans k8))
    simp (maxSteps := 4000000) (disch := omega) only [Zq, evO, vbox, wr, Zeq, if_true, if_false, Nat.reduceEqDiff, Nat.reduceAdd, Nat.reduceLeDiff, Nat.reduceSub, and_self, and_true, true_and, reduceIte, reduceCtorEq, eq_self, implies_true, forall_const, false_implies, imp_self, decide_true, decide_false, fix_nil, fix_cons, g3, g4, g5, g6, g7, g8]
    refine GO_call ((r_impl_Waited (n := (N : Int)) ((rSlc rEdge).rdk he k28) (by omega) ((rSlc rTrip).rdk hr k28) htl ((rSlc rInt).rdk hcz k48) (by omega)).mono ?_)
    rintro _ H9 ⟨k9, rfl⟩
    have n9 := k9.nxt
    have g9 := (k9.get (H2.nxt) (by omega)).trans g8
    have k29 := k28.trans k9
    simp (maxSteps := 4000000) (disch := omega) only [Zq, evO, vbox, wr, Zeq, if_true, if_false, Nat.reduceEqDiff, Nat.reduceAdd, Nat.reduceLeDiff, Nat.reduceSub, and_self, and_true, true_and, reduceIte, reduceCtorEq, eq_self, implies_true, forall_const, false_implies, imp_self, decide_true, decide_false, fix_nil, fix_cons, g3, g4, g5, g6, g7, g8, g9, hw0]
    refine GO_call ((r_impl_Punctual (n := (N : Int)) 0 ((rSlc rEdge).rdk he k29) (by omega) ((rSlc rTrip).rdk hr k29) htl ((rSlc rInt).rdk hcz (k48.trans k9)) (by omega)).mono ?_)
    rintro _ H10 ⟨k10, rfl⟩
    have n10 := k10.nxt
    have g10 := (k10.get (H2.nxt) (by omega)).trans g9
    simp (maxSteps := 4000000) (disch := omega) only [Zq, evO, vbox, wr, Zeq, if_true, if_false, Nat.reduceEqDiff, Nat.reduceAdd, Nat.reduceLeDiff, Nat.reduceSub, and_self, and_true, true_and, reduceIte, reduceCtorEq, eq_self, implies_true, forall_const, false_implies, imp_self, decide_true, decide_false, fix_nil, fix_cons, g3, g4, g5, g6, g7, g8, g9, g10, hp0, lw]
    exact k8.trans (k9.trans k10)
  rintro T HE ⟨t3, t4, t5, kE⟩
  have k2E := k27.trans kE
  have g20 := (kE.get H2.nxt n27).trans g7
  have nE := kE.nxt
  clear g3 g4 g5 g6 g7
  have hul : la.length = l.length := d.d8
  simp (maxSteps := 4000000) (disch := omega) only [Zq, evO, vbox, wr, Zeq, if_true, if_false, Nat.reduceEqDiff, Nat.reduceAdd, Nat.reduceLeDiff, Nat.reduceSub, and_self, and_true, true_and, reduceIte, reduceCtorEq, eq_self, implies_true, forall_const, false_implies, imp_self, decide_true, decide_false, fix_nil, fix_cons, t3, t4, t5, g20]
  refine GO_call ((r_impl_LateAt (n := (N : Int)) ((rSlc rEdge).rdk he k2E) (by omega) ((rSlc rTrip).rdk hr k2E) htl ((rSlc rInt).rdk hu k2E) (by omega)).mono ?_)
  rintro a H21 ⟨k21, oa⟩
  have n21 := k21.nxt
  have g21 := (k21.get (H2.nxt) (by omega)).trans g20
  rw [noOr, if_pos ok] at oa
  have ha21 := ints_of oa.rd
  have hLl := latL_len (es := es) (l := l) (la := la)
  have k2x := k2E.trans k21
  have hga := fun i (hi : i < l.length) => latL_get (es := es) (la := la) hi
  have hlo := fun i (hi : i < l.length) => lat_low (la := la) d hi
  have hpu : punO (N : Int) es l la 5 = ((cntL 5 (latL es l la) : Nat) : Int) := by rw [punO, if_pos ok]
  have hwa : 0 ≤ waitO (N : Int) es l la := by rw [waitO, if_pos ok]; exact wait_low d
  generalize latL es l la = LL at ha21 hLl hga hpu
  have la21 := fun H1 : Heap => IntsK.len_ (H1 := H1) ha21
  rw [hLl] at la21
  simp (maxSteps := 4000000) (disch := omega) only [Zq, evO, vbox, wr, Zeq, if_true, if_false, Nat.reduceEqDiff, Nat.reduceAdd, Nat.reduceLeDiff, Nat.reduceSub, and_self, and_true, true_and, reduceIte, reduceCtorEq, eq_self, implies_true, forall_const, false_implies, imp_self, decide_true, decide_false, fix_nil, fix_cons, t3, t4, t5, g20, g21, la21, lw]
  simp (maxSteps := 4000000) (disch := omega) only [ZD, Zio, Zip, pre_, beq_self_eq_true, Nat.reduceBEq, Zq, evO, vbox, wr, Zeq, if_true, if_false, Nat.reduceEqDiff, Nat.reduceAdd, Nat.reduceLeDiff, Nat.reduceSub, and_self, and_true, true_and, reduceIte, reduceCtorEq, eq_self, implies_true, forall_const, false_implies, imp_self, decide_true, decide_false, fix_nil, fix_cons, t3, t4, t5, g20, g21, G_dreg, la21, lw]
  refine GD_call ((r_impl_Waited (n := (N : Int)) ((rSlc rEdge).rdk he k2x) (by omega) ((rSlc rTrip).rdk hr k2x) htl ((rSlc rInt).rdk hu k2x) (by omega)).mono ?_)
  rintro _ H22 ⟨k22, rfl⟩
  have n22 := k22.nxt
  have g22 := (k22.get H2.nxt (by omega)).trans g21
  have k2y := k2x.trans k22
  have hwn : ¬ waitO (N : Int) es l la < 0 := by omega
  simp (maxSteps := 4000000) (disch := omega) only [ZD, Zio, Zip, pre_, beq_self_eq_true, Nat.reduceBEq, Zq, evO, vbox, wr, Zeq, if_true, if_false, Nat.reduceEqDiff, Nat.reduceAdd, Nat.reduceLeDiff, Nat.reduceSub, and_self, and_true, true_and, reduceIte, reduceCtorEq, eq_self, implies_true, forall_const, false_implies, imp_self, decide_true, decide_false, fix_nil, fix_cons, t3, t4, t5, g20, g21, g22, Zfi hwn]
  refine GD_call ((r_impl_Waited (n := (N : Int)) ((rSlc rEdge).rdk he k2y) (by omega) ((rSlc rTrip).rdk hr k2y) htl ((rSlc rInt).rdk hu k2y) (by omega)).mono ?_)
  rintro _ H23 ⟨k23, rfl⟩
  have n23 := k23.nxt
  have g23 := (k23.get H2.nxt (by omega)).trans g22
  have k2z := k2y.trans k23
  simp (maxSteps := 4000000) (disch := omega) only [ZD, Zio, Zip, pre_, beq_self_eq_true, Nat.reduceBEq, Zq, evO, vbox, wr, Zeq, if_true, if_false, Nat.reduceEqDiff, Nat.reduceAdd, Nat.reduceLeDiff, Nat.reduceSub, and_self, and_true, true_and, reduceIte, reduceCtorEq, eq_self, implies_true, forall_const, false_implies, imp_self, decide_true, decide_false, fix_nil, fix_cons, t3, t4, t5, g20, g21, g22, g23]
  refine GD_call ((r_spec_Waited (n := (N : Int)) ((rSlc rEdge).rdk he k2z) (by omega) ((rSlc rTrip).rdk hr k2z) htl ((rSlc rInt).rdk hu k2z) (by omega)).mono ?_)
  rintro _ H24 ⟨k24', rfl⟩
  have n24 := k24'.nxt
  have g24 := (k24'.get H2.nxt (by omega)).trans g23
  have k2w := k2z.trans k24'
  simp (maxSteps := 4000000) (disch := omega) only [ZD, Zio, Zip, pre_, beq_self_eq_true, Nat.reduceBEq, Zq, evO, vbox, wr, Zeq, if_true, if_false, Nat.reduceEqDiff, Nat.reduceAdd, Nat.reduceLeDiff, Nat.reduceSub, and_self, and_true, true_and, reduceIte, reduceCtorEq, eq_self, implies_true, forall_const, false_implies, imp_self, decide_true, decide_false, fix_nil, fix_cons, t3, t4, t5, g20, g21, g22, g23, g24]
  first | with_reducible refine And.intro (by repeat' (first | apply And.intro | omega | exact k22.get _ (by omega) | exact k23.get _ (by omega) | exact k24'.get _ (by omega))) ?_ | skip
  have hI := IntsK.keep ha21 (k22.trans (k23.trans k24'))
  have hU := ints_of ((rSlc rInt).rdk hu k2w)
  try simp (maxSteps := 4000000) (disch := omega) only [Zq, evO, vbox, wr, Zeq, if_true, if_false, Nat.reduceEqDiff, Nat.reduceAdd, Nat.reduceLeDiff, Nat.reduceSub, and_self, and_true, true_and, reduceIte, reduceCtorEq, eq_self, implies_true, forall_const, false_implies, imp_self, decide_true, decide_false, fix_nil, fix_cons, t3, t4, t5, g20, g21, g22, g23, g24, la21, lw]
  refine G_forF [3, 4, 5, 9] (l.length) (fun i T H25 => T 11 = .int .i64 (i : Int) ∧ T 10 = .int .i64 ((cntL 5 (LL.take i) : Nat) : Int) ∧ H25 = H24) 0 (Nat.zero_le _) ?_ ?_
  · simp (maxSteps := 4000000) (disch := omega) only [Zq, evO, vbox, wr, Zeq, if_true, if_false, Nat.reduceEqDiff, Nat.reduceAdd, Nat.reduceLeDiff, Nat.reduceSub, and_self, and_true, true_and, reduceIte, reduceCtorEq, eq_self, implies_true, forall_const, false_implies, imp_self, decide_true, decide_false, fix_nil, fix_cons, t3, t4, t5, g20, g21, g22, g23, g24]
    exact rfl
  rintro i T H25 hi hT ⟨t11, t10, rfl⟩
  simp only [fix_nil, fix_cons, Zq, evO, vbox, wr, Zeq, if_true, if_false, Nat.reduceEqDiff, Nat.reduceAdd, Nat.reduceLeDiff, Nat.reduceSub, and_self, and_true, true_and, reduceIte, reduceCtorEq, eq_self, implies_true, forall_const, false_implies, imp_self, decide_true, decide_false, t3, t4, t5] at hT
  obtain ⟨t3, t4, t5, t9⟩ := hT
  by_cases hin : i < l.length
  rotate_left
  · obtain rfl : i = l.length := by omega
    simp (maxSteps := 4000000) (disch := omega) only [Zq, evO, vbox, wr, Zeq, if_true, if_false, Nat.reduceEqDiff, Nat.reduceAdd, Nat.reduceLeDiff, Nat.reduceSub, and_self, and_true, true_and, reduceIte, reduceCtorEq, eq_self, implies_true, forall_const, false_implies, imp_self, decide_true, decide_false, fix_nil, fix_cons, t3, t4, t5, g20, g21, g22, g23, g24, t9, t11, t10, lw]
    refine GO_call ((r_impl_Punctual (n := (N : Int)) 5 ((rSlc rEdge).rdk he k2w) (by omega) ((rSlc rTrip).rdk hr k2w) htl ((rSlc rInt).rdk hu k2w) (by omega)).mono ?_)
    rintro _ H26 ⟨k26', rfl⟩
    rw [hpu]
    rw [← hLl, List.take_length] at t10
    simp (maxSteps := 4000000) (disch := omega) only [Zq, evO, vbox, wr, Zeq, if_true, if_false, Nat.reduceEqDiff, Nat.reduceAdd, Nat.reduceLeDiff, Nat.reduceSub, and_self, and_true, true_and, reduceIte, reduceCtorEq, eq_self, implies_true, forall_const, false_implies, imp_self, decide_true, decide_false, fix_nil, fix_cons, t3, t4, t5, g20, g21, g22, g23, g24, t9, t11, t10]
  obtain ⟨wc, hcc, fc⟩ := trip_elK hr hin
  have ixw := fun H0 : Heap => slc_idx (r := rTrip) (H1 := H0) (sz := 2) (i := i) (k := .i64) rfl hr hin
  have fxw := fun (H0 : Heap) (o off : Nat) => slc_fad (r := rTrip) (H1 := H0) (sz := 2) (o := o) (off := off) rfl hr hin
  have lc : ∀ H : Heap, vlen H wc = some (.int .i64 (tp l i).2.length, H) := fun _ => slc_len hcc
  have h12 := d.d1 i hin
  have h5 := d.d5 i hin
  simp (maxSteps := 4000000) (disch := omega) only [Zq, evO, vbox, wr, Zeq, if_true, if_false, Nat.reduceEqDiff, Nat.reduceAdd, Nat.reduceLeDiff, Nat.reduceSub, and_self, and_true, true_and, reduceIte, reduceCtorEq, eq_self, implies_true, forall_const, false_implies, imp_self, decide_true, decide_false, fix_nil, fix_cons, t3, t4, t5, g20, g21, g22, g23, g24, t9, t11, t10, lw, ixw, fxw, (fc H25 k2w).2.2]
  refine G_forF [3, 4, 5, 9, 10, 11, 13] (((tp l i).2.length - 2)) (fun k T H26 => T 14 = .int .i64 ((k + 1 : Nat) : Int) ∧ T 12 = .int .i64 (spr l i k) ∧ H26 = H25) 0 (Nat.zero_le _) ?_ ?_
  · simp (maxSteps := 4000000) (disch := omega) only [Zq, evO, vbox, wr, Zeq, if_true, if_false, Nat.reduceEqDiff, Nat.reduceAdd, Nat.reduceLeDiff, Nat.reduceSub, and_self, and_true, true_and, reduceIte, reduceCtorEq, eq_self, implies_true, forall_const, false_implies, imp_self, decide_true, decide_false, fix_nil, fix_cons, t3, t4, t5, g20, g21, g22, g23, g24, t9, t11, t10, spr]
    exact rfl
  rintro k T H26 hk hT ⟨t14, t12, rfl⟩
  simp only [fix_nil, fix_cons, Zq, evO, vbox, wr, Zeq, if_true, if_false, Nat.reduceEqDiff, Nat.reduceAdd, Nat.reduceLeDiff, Nat.reduceSub, and_self, and_true, true_and, reduceIte, reduceCtorEq, eq_self, implies_true, forall_const, false_implies, imp_self, decide_true, decide_false, t3, t4, t5, t9, t11, t10] at hT
  obtain ⟨t3, t4, t5, t9, t10, t11, t13⟩ := hT
  have hw1 : IntKind.i64.wrap (((k + 1 : Nat) : Int) + 1) = ((k + 1 + 1 : Nat) : Int) := by rw [wrap64 (by omega) (by omega)]; omega
  have hsp := spr_bd d hin k (by omega)
  by_cases hkn : k + 2 < (tp l i).2.length
  · have ixk := fun H0 : Heap => slc_idx (r := rCall) (H1 := H0) (sz := 3) (i := k + 1) (k := .i64) rfl hcc (by omega)
    have fxk := fun (H0 : Heap) (o off : Nat) => slc_fad (r := rCall) (H1 := H0) (sz := 3) (i := k + 1) (o := o) (off := off) rfl hcc (by omega)
    have x1 := (call_el (i := k + 1) ((rSlc rCall).rdk hcc k2w) (by omega)).2.2.2
    have x2 := (call_el (i := k + 1) ((rSlc rCall).rdk hcc k2w) (by omega)).2.2.1
    rw [show (cl (tp l i).2 (k + 1)).2.2 = dp l i (k + 1) from rfl] at x1
    rw [show (cl (tp l i).2 (k + 1)).2.1 = av l i (k + 1) from rfl] at x2
    have hd2 := d.d2 i (k + 1) hin (by omega)
    have hw2 : IntKind.i64.wrap (spr l i k + dp l i (k + 1)) = spr l i k + dp l i (k + 1) := wrap64 (by omega) (by omega)
    have hw3 : IntKind.i64.wrap (spr l i k + dp l i (k + 1) - av l i (k + 1)) = spr l i (k + 1) := by rw [wrap64 (by omega) (by omega)]; rfl
    simp (maxSteps := 4000000) (disch := omega) only [Zq, evO, vbox, wr, Zeq, if_true, if_false, Nat.reduceEqDiff, Nat.reduceAdd, Nat.reduceLeDiff, Nat.reduceSub, and_self, and_true, true_and, reduceIte, reduceCtorEq, eq_self, implies_true, forall_const, false_implies, imp_self, decide_true, decide_false, fix_nil, fix_cons, t3, t4, t5, g20, g21, g22, g23, g24, t9, t11, t10, t13, t14, t12, lc, hw1, Zfh (by omega : ((k + 1 + 1 : Nat) : Int) < ((tp l i).2.length : Int))]
    refine G_calm rfl ?_
    simp (maxSteps := 4000000) (disch := omega) only [Zq, evO, vbox, wr, Zeq, if_true, if_false, Nat.reduceEqDiff, Nat.reduceAdd, Nat.reduceLeDiff, Nat.reduceSub, and_self, and_true, true_and, reduceIte, reduceCtorEq, eq_self, implies_true, forall_const, false_implies, imp_self, decide_true, decide_false, fix_nil, fix_cons, t3, t4, t5, g20, g21, g22, g23, g24, t9, t11, t10, t13, t14, t12, lc, hw1, ixk, fxk, x1, x2, hw2, hw3]
    exact (by omega)
  have hke : k = (tp l i).2.length - 2 := by omega
  simp (maxSteps := 4000000) (disch := omega) only [Zq, evO, vbox, wr, Zeq, if_true, if_false, Nat.reduceEqDiff, Nat.reduceAdd, Nat.reduceLeDiff, Nat.reduceSub, and_self, and_true, true_and, reduceIte, reduceCtorEq, eq_self, implies_true, forall_const, false_implies, imp_self, decide_true, decide_false, fix_nil, fix_cons, t3, t4, t5, g20, g21, g22, g23, g24, t9, t11, t10, t13, t14, t12, lc, hw1, Zfi (by omega : ¬ ((k + 1 + 1 : Nat) : Int) < ((tp l i).2.length : Int))]
  refine G_calm rfl ?_
  have ixa := fun H0 : Heap => IntsK.idx (k' := .i64) (H1 := H0) hI (by rw [hLl]; exact hin)
  have ea := IntsK.ld hI (by rw [hLl]; exact hin : i < LL.length)
  have ixu := fun H0 : Heap => IntsK.idx (k' := .i64) (H1 := H0) hU (by rw [hul]; exact hin)
  have eu := IntsK.ld hU (by rw [hul]; exact hin : i < la.length)
  have hct := cntL_take (b := 5) (xs := LL) (j := i) (by rw [hLl]; exact hin)
  have hcb := cntL_le 5 LL i
  rw [show LL.getD i 0 = gi LL i from rfl] at ea hct
  rw [show la.getD i 0 = gi la i from rfl] at eu
  obtain ⟨lo1, lo2⟩ := hlo i hin
  rw [← hga i hin] at lo1 lo2
  rw [← hke] at lo2
  have hw4 : IntKind.i64.wrap (gi la i - spr l i k) = gi la i - spr l i k := wrap64 (by omega) (by omega)
  have hn1 : ¬ gi LL i < 0 := by omega
  have hn2 : ¬ gi LL i < gi la i - spr l i k := by omega
  by_cases c5 : gi LL i ≤ 5
  · rw [if_pos c5] at hct
    have hw5 : IntKind.i64.wrap (((cntL 5 (LL.take i) : Nat) : Int) + 1) = ((cntL 5 (LL.take (i + 1)) : Nat) : Int) := by rw [wrap64 (by omega) (by omega), hct]; omega
    simp (maxSteps := 4000000) (disch := omega) only [Zq, evO, vbox, wr, Zeq, if_true, if_false, Nat.reduceEqDiff, Nat.reduceAdd, Nat.reduceLeDiff, Nat.reduceSub, and_self, and_true, true_and, reduceIte, reduceCtorEq, eq_self, implies_true, forall_const, false_implies, imp_self, decide_true, decide_false, fix_nil, fix_cons, t3, t4, t5, g20, g21, g22, g23, g24, t9, t11, t10, t13, t14, t12, ixa, ea, ixu, eu, hw4, Zfi hn1, Zfi hn2, Zfj c5, hw5]
    exact hin
  · rw [if_neg c5] at hct
    simp (maxSteps := 4000000) (disch := omega) only [Zq, evO, vbox, wr, Zeq, if_true, if_false, Nat.reduceEqDiff, Nat.reduceAdd, Nat.reduceLeDiff, Nat.reduceSub, and_self, and_true, true_and, reduceIte, reduceCtorEq, eq_self, implies_true, forall_const, false_implies, imp_self, decide_true, decide_false, fix_nil, fix_cons, t3, t4, t5, g20, g21, g22, g23, g24, t9, t11, t10, t13, t14, t12, ixa, ea, ixu, eu, hw4, Zfi hn1, Zfi hn2, Zfk c5]
    exact ⟨hin, by rw [hct, Nat.add_zero]⟩
theorem go_laws_FnPlan (H : Heap) (xs : List Value) (h : GoodArgs Try.prog H Try.f3.params.toList xs) : ∃ H', CR Try.prog 3 xs H (.bool true) H' := by
  rw [Try.params3] at h
  obtain ⟨v, l, rfl, h1, h2⟩ := good_args_cons h
  obtain rfl := good_args_nil h2
  obtain ⟨_, g⟩ := goodV_one (by kernel_rfl) h1
  obtain ⟨w, code, e, hi, hm, hwf⟩ := good_ints (e := 5) (k := .u8) (by kernel_rfl) (by kernel_rfl) (by kernel_rfl) g
  simp at e
  subst e
  obtain ⟨r, H', hr, rfl⟩ := r_laws_FnPlan hi (fun x hx => wf8 (hwf x hx))
  exact ⟨H', hr⟩
end Go.Proofs.Ytjjglonmaajjoaa.AX
