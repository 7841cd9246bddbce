/- A drawn day: the law's run. No condition; of the program: the functions' forms. -/
import Derived.Test.YtjjglonmaajjoaaDap
import Derived.Test.YtjjglonmaajjoaaDw6
import Derived.Test.YtjjglonmaajjoaaPdm
import Derived.Test.YtjjglonmaajjoaaApc
namespace Go.Proofs.Ytjjglonmaajjoaa.AX
open Go
set_option maxRecDepth 10000
set_option maxHeartbeats 4000000
set_option linter.unusedSimpArgs false
set_option linter.unusedVariables false
theorem vcmp_same {H : Heap} {a b c d : Int} : vcmp H true [(0, 1), (1, 1), (2, 1), (3, 1)] (.agg #[.int .i64 a, .int .i64 b, .int .i64 c, .int .i64 d]) (.agg #[.int .i64 a, .int .i64 b, .int .i64 c, .int .i64 d]) = some (.bool false, H) := by
  simp [vcmp, ceqs, ceq]
theorem r_laws_sameRuns {H : Heap} {v w : Value} {rs : List Rn} (hv : (rSlc rRun).rd H [v] rs) (hw : (rSlc rRun).rd H [w] rs) (hl : rs.length ≤ 1000) : Run Try.prog 19 [v, w] H fun r H' => Keep H H' ∧ r = .bool true := by
  have lv : ∀ H : Heap, vlen H v = some (.int .i64 rs.length, H) := fun _ => slc_len hv
  have lw : ∀ H : Heap, vlen H w = some (.int .i64 rs.length, H) := fun _ => slc_len hw
  refine Run.intro c19 rfl ?_
  simp (maxSteps := 4000000) (disch := omega) only [Zq, evO, vbox, wr, Zeq, if_true, if_false, Nat.reduceEqDiff, Nat.reduceAdd, Nat.reduceLeDiff, Nat.reduceSub, and_self, and_true, true_and, reduceIte, reduceCtorEq, eq_self, implies_true, forall_const, false_implies, imp_self, decide_true, decide_false, x19, lv, lw]
  refine G_forF [0, 1] (rs.length) (fun i T H1 => T 5 = .int .i64 (i : Int) ∧ H1 = H) 0 (Nat.zero_le _) ?_ ?_
  · simp (maxSteps := 4000000) (disch := omega) only [Zq, evO, vbox, wr, Zeq, if_true, if_false, Nat.reduceEqDiff, Nat.reduceAdd, Nat.reduceLeDiff, Nat.reduceSub, and_self, and_true, true_and, reduceIte, reduceCtorEq, eq_self, implies_true, forall_const, false_implies, imp_self, decide_true, decide_false, fix_nil, fix_cons]
  rintro i T H1 hi hT ⟨t5, rfl⟩
  simp only [fix_nil, fix_cons, Zq, evO, vbox, wr, Zeq, if_true, if_false, Nat.reduceEqDiff, Nat.reduceAdd, Nat.reduceLeDiff, Nat.reduceSub, and_self, and_true, true_and, reduceIte, reduceCtorEq, eq_self, implies_true, forall_const, false_implies, imp_self, decide_true, decide_false] at hT
  obtain ⟨t0, t1⟩ := hT
  by_cases hin : i < rs.length
  · have ixv := fun H0 : Heap => slc_idx (r := rRun) (H1 := H0) (sz := 4) (i := i) (k := .i64) rfl hv hin
    have ixw := fun H0 : Heap => slc_idx (r := rRun) (H1 := H0) (sz := 4) (i := i) (k := .i64) rfl hw hin
    have ev := (run_elK hv hin H1 (Keep.refl _)).1
    have ew := (run_elK hw hin H1 (Keep.refl _)).1
    simp (maxSteps := 4000000) (disch := omega) only [Zq, evO, vbox, wr, Zeq, if_true, if_false, Nat.reduceEqDiff, Nat.reduceAdd, Nat.reduceLeDiff, Nat.reduceSub, and_self, and_true, true_and, reduceIte, reduceCtorEq, eq_self, implies_true, forall_const, false_implies, imp_self, decide_true, decide_false, fix_nil, fix_cons, t0, t1, t5, lv]
    refine G_calm rfl ?_
    simp (maxSteps := 4000000) (disch := omega) only [Zq, evO, vbox, wr, Zeq, if_true, if_false, Nat.reduceEqDiff, Nat.reduceAdd, Nat.reduceLeDiff, Nat.reduceSub, and_self, and_true, true_and, reduceIte, reduceCtorEq, eq_self, implies_true, forall_const, false_implies, imp_self, decide_true, decide_false, fix_nil, fix_cons, t0, t1, t5, ixv, ixw, ev, ew, GO_cmp, vcmp_same]
    exact hin
  obtain rfl : i = rs.length := by omega
  simp (maxSteps := 4000000) (disch := omega) only [Zq, evO, vbox, wr, Zeq, if_true, if_false, Nat.reduceEqDiff, Nat.reduceAdd, Nat.reduceLeDiff, Nat.reduceSub, and_self, and_true, true_and, reduceIte, reduceCtorEq, eq_self, implies_true, forall_const, false_implies, imp_self, decide_true, decide_false, fix_nil, fix_cons, t0, t1, t5, lv]
  exact Keep.refl _
theorem sum_take_le (lg : List Nat) (i : Nat) : (lg.take i).sum ≤ lg.sum := by
  conv => rhs; rw [← List.take_append_drop i lg]
  rw [List.sum_append]
  omega
theorem sum_take_succ {lg : List Nat} {i : Nat} (h : i < lg.length) : (lg.take (i + 1)).sum = (lg.take i).sum + gn lg i := by
  rw [take_snoc lg 0 h, List.sum_append]
  simp [gn]
theorem mapsum_le {α : Type} {f : α → Nat} {b : Nat} : ∀ {xs : List α}, (∀ x ∈ xs, f x ≤ b) → (xs.map f).sum ≤ b * xs.length
  | [], _ => by simp
  | x :: xs, h => by
    have h1 := h x (by simp)
    have h2 := mapsum_le (f := f) (b := b) (xs := xs) (fun y hy => h y (by simp [hy]))
    rw [List.map_cons, List.sum_cons, List.length_cons, Nat.mul_add, Nat.mul_one]
    omega
theorem trips_tot {n : Int} {es : List Ed} {l : List Tp} (h : ridden n es l = true) : (rSlc rTrip).tot l ≤ 1048576 := by
  obtain ⟨_, h24, htp, _⟩ := ridden_get h
  have key : ∀ x ∈ l, rTrip.tot x ≤ 100 := fun x hx => by
    obtain ⟨i, hi, rfl⟩ := List.mem_iff_getElem.1 hx
    have := htp i hi
    rw [tp, getD_get _ _ hi] at this
    generalize l[i] = t at this
    obtain ⟨s, cs⟩ := t
    rw [trip_tot, flat_tot]
    simp only [tpOk, nmOk, Bool.and_eq_true, inR_iff] at this
    omega
  have := mapsum_le (f := rTrip.tot) key
  show l.length + (l.map rTrip.tot).sum ≤ _
  omega
theorem r_laws_FnDay {H : Heap} {v0 : Value} {code : List Int} (h : Bts' H v0 code) (hc : ∀ x ∈ code, 0 ≤ x ∧ x ≤ 255) : Run Try.prog 4 [v0] H fun r _ => r = .bool true := by
  refine Run.intro c4 rfl ?_
  simp (maxSteps := 4000000) (disch := omega) only [Zq, evO, vbox, wr, Zeq, if_true, if_false, Nat.reduceEqDiff, Nat.reduceAdd, Nat.reduceLeDiff, Nat.reduceSub, and_self, and_true, true_and, reduceIte, reduceCtorEq, eq_self, implies_true, forall_const, false_implies, imp_self, decide_true, decide_false, x4]
  refine GO_call ((r_laws_big h).mono ?_)
  rintro _ H1 ⟨k1, rfl⟩
  by_cases hl : code.length ≤ 1048576
  rotate_left
  · simp (maxSteps := 4000000) (disch := omega) only [Zq, evO, vbox, wr, Zeq, if_true, if_false, Nat.reduceEqDiff, Nat.reduceAdd, Nat.reduceLeDiff, Nat.reduceSub, and_self, and_true, true_and, reduceIte, reduceCtorEq, eq_self, implies_true, forall_const, false_implies, imp_self, decide_true, decide_false, fix_nil, fix_cons]
  simp (maxSteps := 4000000) (disch := omega) only [Zq, evO, vbox, wr, Zeq, if_true, if_false, Nat.reduceEqDiff, Nat.reduceAdd, Nat.reduceLeDiff, Nat.reduceSub, and_self, and_true, true_and, reduceIte, reduceCtorEq, eq_self, implies_true, forall_const, false_implies, imp_self, decide_true, decide_false, fix_nil, fix_cons]
  refine GO_call ((r_spec_DrawRightDay (IntsK.keep h k1) hl hc).mono ?_)
  rintro _ H2 ⟨k2, N, vn, es, w, l, u, la, rfl, he, hr, hu, hel, hll, hcl, ok⟩
  obtain ⟨d, rok⟩ := dy_of ok
  have htl := trips_tot rok
  have lw : ∀ H : Heap, vlen H w = some (.int .i64 l.length, H) := fun _ => slc_len hr
  obtain ⟨ce, se⟩ := slc_sl (sz := 4) (r := rEdge) rfl he
  have ne := Sl.noTup_ se
  have ve := Sl.cells_ se
  simp (maxSteps := 4000000) (disch := omega) only [Zq, evO, vbox, wr, Zeq, if_true, if_false, Nat.reduceEqDiff, Nat.reduceAdd, Nat.reduceLeDiff, Nat.reduceSub, and_self, and_true, true_and, reduceIte, reduceCtorEq, eq_self, implies_true, forall_const, false_implies, imp_self, decide_true, decide_false, fix_nil, fix_cons, ne, ve]
  generalize hG3 : (H2.push [.int .i64 0, .slice none 0 0]).set H2.nxt [.int .i64 (N : Int), vn] = H3
  have k3 : Keep H2 H3 := by rw [← hG3]; repeat' (first | exact Keep.refl _ | assumption | refine Keep.push' ?_ | refine Keep.set' ?_ ?_ | refine Keep.moved' ?_ ?_ | omega)
  have g3 : H3.get H2.nxt = some (.own [.int .i64 (N : Int), vn]) := by rw [← hG3, Zbi, if_pos rfl]
  have n3 : H3.nxt = H2.nxt + 1 := by rw [← hG3, Zbh, Zbg]
  refine GO_call ((r_impl_PlayDay (n := (N : Int)) ((rSlc rEdge).rdk he k3) (by omega) ((rSlc rTrip).rdk hr k3) htl ((rSlc rInt).rdk hu k3) (by have := d.d8; omega)).mono ?_)
  rintro z H4 ⟨k4, oz⟩
  have n4 := k4.nxt
  have g4 := (k4.get (H2.nxt) (by omega)).trans g3
  rw [noOr, if_pos ok] at oz
  have k24 := k3.trans k4
  have hz := oz.rd
  obtain ⟨lg, lg1, lg2, lg3⟩ := pday_legs d
  have hro := pday_rOk d
  have hst := pday_stand d rok
  obtain ⟨S, g, hf, ep⟩ := pday_fact d
  have hlen : (pday es l la).length ≤ 264 := by rw [ep]; exact gd_len d g
  have hbd : ∀ r, r ∈ pday es l la → 0 ≤ r.2.2.1 ∧ r.2.2.2 ≤ 110000 + 100000 * 264 := fun r hr => by
    rw [ep] at hr
    have := g.gt r hr
    have := gd_len d g
    omega
  clear ep hf g S
  generalize hrs : pday es l la = rs at hz hro hst hlen hbd lg3
  have lz : ∀ H : Heap, vlen H z = some (.int .i64 rs.length, H) := fun _ => slc_len hz
  simp (maxSteps := 4000000) (disch := omega) only [Zq, evO, vbox, wr, Zeq, if_true, if_false, Nat.reduceEqDiff, Nat.reduceAdd, Nat.reduceLeDiff, Nat.reduceSub, and_self, and_true, true_and, reduceIte, reduceCtorEq, eq_self, implies_true, forall_const, false_implies, imp_self, decide_true, decide_false, fix_nil, fix_cons, g3, g4, lw]
  refine G_forF [3, 4, 5, 6] (l.length) (fun i T H5 => T 8 = .int .i64 (i : Int) ∧ T 7 = .int .i64 (((lg.take i).sum : Nat) : Int) ∧ H5 = H4) 0 (Nat.zero_le _) ?_ ?_
  · simp (maxSteps := 4000000) (disch := omega) only [Zq, evO, vbox, wr, Zeq, if_true, if_false, Nat.reduceEqDiff, Nat.reduceAdd, Nat.reduceLeDiff, Nat.reduceSub, and_self, and_true, true_and, reduceIte, reduceCtorEq, eq_self, implies_true, forall_const, false_implies, imp_self, decide_true, decide_false, fix_nil, fix_cons, g3, g4]
    exact rfl
  rintro i T H5 hi hT ⟨t8, t7, rfl⟩
  simp only [fix_nil, fix_cons, Zq, evO, vbox, wr, Zeq, if_true, if_false, Nat.reduceEqDiff, Nat.reduceAdd, Nat.reduceLeDiff, Nat.reduceSub, and_self, and_true, true_and, reduceIte, reduceCtorEq, eq_self, implies_true, forall_const, false_implies, imp_self, decide_true, decide_false] at hT
  obtain ⟨t3, t4, t5, t6⟩ := hT
  by_cases hin : i < l.length
  · obtain ⟨wc, hcc, fc⟩ := trip_elK hr hin
    have ixw := fun H0 : Heap => slc_idx (r := rTrip) (H1 := H0) (sz := 2) (i := i) (k := .i64) rfl hr hin
    have fxw := fun (H0 : Heap) (o off : Nat) => slc_fad (r := rTrip) (H1 := H0) (sz := 2) (o := o) (off := off) rfl hr hin
    have lc : ∀ H : Heap, vlen H wc = some (.int .i64 (tp l i).2.length, H) := fun _ => slc_len hcc
    have h12 := d.d1 i hin
    have e1 := sum_take_succ (lg := lg) (i := i) (by omega)
    have e2 := sum_take_le lg (i + 1)
    have e3 := lg2 i hin
    have hw1 : IntKind.i64.wrap ((((lg.take i).sum : Nat) : Int) + (tp l i).2.length) = (((lg.take i).sum : Nat) : Int) + (tp l i).2.length := wrap64 (by omega) (by omega)
    have hw2 : IntKind.i64.wrap ((((lg.take i).sum : Nat) : Int) + (tp l i).2.length - 1) = (((lg.take (i + 1)).sum : Nat) : Int) := by rw [wrap64 (by omega) (by omega), e1]; omega
    simp (maxSteps := 4000000) (disch := omega) only [Zq, evO, vbox, wr, Zeq, if_true, if_false, Nat.reduceEqDiff, Nat.reduceAdd, Nat.reduceLeDiff, Nat.reduceSub, and_self, and_true, true_and, reduceIte, reduceCtorEq, eq_self, implies_true, forall_const, false_implies, imp_self, decide_true, decide_false, fix_nil, fix_cons, g3, g4, t3, t4, t5, t6, t8, t7, lw, ixw, fxw, (fc H5 k24).2.2, lc, hw1, hw2]
    exact hin
  obtain rfl : i = l.length := by omega
  rw [show lg.take l.length = lg by rw [← lg1, List.take_length], ← lg3] at t7
  simp (maxSteps := 4000000) (disch := omega) only [Zq, evO, vbox, wr, Zeq, if_true, if_false, Nat.reduceEqDiff, Nat.reduceAdd, Nat.reduceLeDiff, Nat.reduceSub, and_self, and_true, true_and, reduceIte, reduceCtorEq, eq_self, implies_true, forall_const, false_implies, imp_self, decide_true, decide_false, fix_nil, fix_cons, g3, g4, t3, t4, t5, t6, t8, t7, lw]
  refine GO_call ((r_impl_DayOk (n := (N : Int)) ((rSlc rEdge).rdk he k24) (by omega) ((rSlc rTrip).rdk hr k24) htl ((rSlc rInt).rdk hu k24) (by have := d.d8; omega)).mono ?_)
  rintro _ H6 ⟨k6, rfl⟩
  have n6 := k6.nxt
  have g6 := (k6.get (H2.nxt) (by omega)).trans g4
  rw [ok]
  simp (maxSteps := 4000000) (disch := omega) only [Zq, evO, vbox, wr, Zeq, if_true, if_false, Nat.reduceEqDiff, Nat.reduceAdd, Nat.reduceLeDiff, Nat.reduceSub, and_self, and_true, true_and, reduceIte, reduceCtorEq, eq_self, implies_true, forall_const, false_implies, imp_self, decide_true, decide_false, fix_nil, fix_cons, g3, g4, t3, t4, t5, t6, t8, t7, g6, lz]
  refine GO_call ((r_impl_Apart (n := (N : Int)) ((rSlc rEdge).rdk he (k24.trans k6)) (by omega) ((rSlc rTrip).rdk hr (k24.trans k6)) htl ((rSlc rRun).rdk hz k6) (by omega)).mono ?_)
  rintro _ H7 ⟨k7, rfl⟩
  have n7 := k7.nxt
  have g7 := (k7.get (H2.nxt) (by omega)).trans g6
  rw [hst]
  have k27 := k24.trans (k6.trans k7)
  simp (maxSteps := 4000000) (disch := omega) only [Zq, evO, vbox, wr, Zeq, if_true, if_false, Nat.reduceEqDiff, Nat.reduceAdd, Nat.reduceLeDiff, Nat.reduceSub, and_self, and_true, true_and, reduceIte, reduceCtorEq, eq_self, implies_true, forall_const, false_implies, imp_self, decide_true, decide_false, fix_nil, fix_cons, g3, g4, t3, t4, t5, t6, t8, t7, g6, g7]
  refine GO_call ((r_spec_PlayDay (n := (N : Int)) ((rSlc rEdge).rdk he k27) (by omega) ((rSlc rTrip).rdk hr k27) htl ((rSlc rInt).rdk hu k27) (by have := d.d8; omega)).mono ?_)
  rintro x H8 ⟨k8, ox⟩
  have n8 := k8.nxt
  rw [noOr, if_pos ok, hrs] at ox
  have k48 := k6.trans (k7.trans k8)
  simp (maxSteps := 4000000) (disch := omega) only [Zq, evO, vbox, wr, Zeq, if_true, if_false, Nat.reduceEqDiff, Nat.reduceAdd, Nat.reduceLeDiff, Nat.reduceSub, and_self, and_true, true_and, reduceIte, reduceCtorEq, eq_self, implies_true, forall_const, false_implies, imp_self, decide_true, decide_false, fix_nil, fix_cons, g3, g4, t3, t4, t5, t6, t8, t7, g6, g7]
  refine GO_call ((r_laws_sameRuns ((rSlc rRun).rdk hz k48) ox.rd (by omega)).mono ?_)
  rintro _ H9 ⟨k9, rfl⟩
  have n9 := k9.nxt
  have k49 := k48.trans k9
  have k29 := k24.trans k49
  simp (maxSteps := 4000000) (disch := omega) only [Zq, evO, vbox, wr, Zeq, if_true, if_false, Nat.reduceEqDiff, Nat.reduceAdd, Nat.reduceLeDiff, Nat.reduceSub, and_self, and_true, true_and, reduceIte, reduceCtorEq, eq_self, implies_true, forall_const, false_implies, imp_self, decide_true, decide_false, fix_nil, fix_cons, g3, g4, t3, t4, t5, t6, t8, t7, g6, g7, lw]
  generalize hGa : H9.push (List.replicate l.length [Value.int .i64 0]).flatten = Ha
  have ka : Keep H9 Ha := by rw [← hGa]; exact Keep.push _ _
  have na : Ha.nxt = H9.nxt + 1 := by rw [← hGa, Zbg]
  have rf : (List.replicate l.length [Value.int .i64 0]).flatten = (List.replicate l.length 0).map (Value.int .i64) := by
    induction l.length with
    | zero => rfl
    | succ n ih => simp [List.replicate_succ, ih]
  obtain ⟨cv, hcv⟩ : ∃ cv, cv = Value.slice (some ⟨H9.nxt, 0, none⟩) l.length 1 := ⟨_, rfl⟩
  have hcb : blk cv = H9.nxt := by rw [hcv]; rfl
  have oa : NewI H9 Ha cv (z0 l) := ⟨H9.nxt, Nat.le_refl _, by omega, by rw [hcv, z0, List.length_replicate], by rw [← hGa, push_get', if_pos rfl, fcZ, rf, z0]⟩
  rw [← hcv]
  generalize hGb : Ha.push (List.replicate l.length [Value.int .i64 0]).flatten = Hb
  have kb : Keep Ha Hb := by rw [← hGb]; exact Keep.push _ _
  have nb : Hb.nxt = Ha.nxt + 1 := by rw [← hGb, Zbg]
  obtain ⟨cw, hcw⟩ : ∃ cw, cw = Value.slice (some ⟨Ha.nxt, 0, none⟩) l.length 1 := ⟨_, rfl⟩
  have hcx : blk cw = Ha.nxt := by rw [hcw]; rfl
  have ob : NewI H9 Hb cw (z0 l) := ⟨Ha.nxt, by omega, by omega, by rw [hcw, z0, List.length_replicate], by rw [← hGb, push_get', if_pos rfl, fcZ, rf, z0]⟩
  rw [na] at hcw
  rw [← hcw]
  have oab := oa.keep kb
  clear hGa hGb oa
  refine G_forF [4, 5, 6, 9, 10] (rs.length) (fun j T Hc => T 11 = .int .i64 (j : Int) ∧ Keep H9 Hc ∧ NewI H9 Hc cv ((rs.take j).foldl dnS (z0 l)) ∧ NewI H9 Hc cw ((rs.take j).foldl frS (z0 l))) 0 (Nat.zero_le _) ?_ ?_
  · simp (maxSteps := 4000000) (disch := omega) only [Zq, evO, vbox, wr, Zeq, if_true, if_false, Nat.reduceEqDiff, Nat.reduceAdd, Nat.reduceLeDiff, Nat.reduceSub, and_self, and_true, true_and, reduceIte, reduceCtorEq, eq_self, implies_true, forall_const, false_implies, imp_self, decide_true, decide_false, fix_nil, fix_cons, g3, g4, t3, t4, t5, t6, t8, t7, g6, g7]
    exact ⟨ka.trans kb, oab, ob⟩
  rintro j T Hc hj hT ⟨t11, kc, oD, oF⟩
  simp only [fix_nil, fix_cons, Zq, evO, vbox, wr, Zeq, if_true, if_false, Nat.reduceEqDiff, Nat.reduceAdd, Nat.reduceLeDiff, Nat.reduceSub, and_self, and_true, true_and, reduceIte, reduceCtorEq, eq_self, implies_true, forall_const, false_implies, imp_self, decide_true, decide_false, t3, t4, t5, t6, t8, t7] at hT
  obtain ⟨t4, t5, t6, t9, t10⟩ := hT
  by_cases hjn : j < rs.length
  rotate_left
  · obtain rfl : j = rs.length := by omega
    simp (maxSteps := 4000000) (disch := omega) only [Zq, evO, vbox, wr, Zeq, if_true, if_false, Nat.reduceEqDiff, Nat.reduceAdd, Nat.reduceLeDiff, Nat.reduceSub, and_self, and_true, true_and, reduceIte, reduceCtorEq, eq_self, implies_true, forall_const, false_implies, imp_self, decide_true, decide_false, fix_nil, fix_cons, g3, g4, t3, t4, t5, t6, t8, t7, g6, g7, t9, t10, t11, lz]
  have k2c := k29.trans kc
  have hzc := (rSlc rRun).rdk hz (k49.trans kc)
  have ixz := fun H0 : Heap => slc_idx (r := rRun) (H1 := H0) (sz := 4) (i := j) (k := .i64) rfl hz hjn
  have eR := (run_elK hzc hjn Hc (Keep.refl _)).1
  have hrj := hro j hjn
  have hbj := hbd (rn rs j) (by rw [rn, getD_get _ _ hjn]; exact List.getElem_mem hjn)
  have hD' : (rs.take (j + 1)).foldl dnS (z0 l) = dnS ((rs.take j).foldl dnS (z0 l)) (rn rs j) := by rw [take_snoc rs (0, 0, 0, 0) hjn, List.foldl_append]; rfl
  have hF' : (rs.take (j + 1)).foldl frS (z0 l) = frS ((rs.take j).foldl frS (z0 l)) (rn rs j) := by rw [take_snoc rs (0, 0, 0, 0) hjn, List.foldl_append]; rfl
  have hprev : 0 < j → (rn rs (j - 1)).2.2.1 ≤ (rn rs j).2.2.1 := fun h0 => by
    obtain ⟨_, _, _, _, _, _, _, _, _, _, hq⟩ := hrj
    refine hq _ ?_
    rw [rn, getD_get _ _ (by omega), List.mem_iff_getElem]
    exact ⟨j - 1, by rw [List.length_take]; omega, by rw [List.getElem_take]⟩
  rw [hD', hF']
  generalize hy : rn rs j = y at eR hrj hbj hD' hF' hprev
  obtain ⟨a, b, f, t⟩ := y
  obtain ⟨p, k, hp, hk, hpl, hkl, hdn, hfr, hdp, hto, _⟩ := hrj
  simp only [] at eR hbj hp hk hfr hdp hto hprev
  subst hp hk
  have hDl : ((rs.take j).foldl dnS (z0 l)).length = l.length := by rw [dnS_len, z0, List.length_replicate]
  have hFl : ((rs.take j).foldl frS (z0 l)).length = l.length := by rw [frS_len, z0, List.length_replicate]
  generalize hDD : (rs.take j).foldl dnS (z0 l) = DD at oD hdn hDl
  generalize hFF : (rs.take j).foldl frS (z0 l) = FF at oF hfr hFl
  simp (maxSteps := 4000000) (disch := omega) only [Zq, evO, vbox, wr, Zeq, if_true, if_false, Nat.reduceEqDiff, Nat.reduceAdd, Nat.reduceLeDiff, Nat.reduceSub, and_self, and_true, true_and, reduceIte, reduceCtorEq, eq_self, implies_true, forall_const, false_implies, imp_self, decide_true, decide_false, fix_nil, fix_cons, g3, g4, t3, t4, t5, t6, t8, t7, g6, g7, t9, t10, t11, lz, ixz, eR]
  generalize hGd : (Hc.push [.int .i64 0, .int .i64 0, .int .i64 0, .int .i64 0]).set Hc.nxt [.int .i64 p, .int .i64 k, .int .i64 f, .int .i64 t] = Hd
  have kd : Keep Hc Hd := by rw [← hGd]; repeat' (first | exact Keep.refl _ | assumption | refine Keep.push' ?_ | refine Keep.set' ?_ ?_ | refine Keep.moved' ?_ ?_ | omega)
  have gd : Hd.get Hc.nxt = some (.own [.int .i64 p, .int .i64 k, .int .i64 f, .int .i64 t]) := by rw [← hGd, Zbi, if_pos rfl]
  have nd : Hd.nxt = Hc.nxt + 1 := by rw [← hGd, Zbh, Zbg]
  clear hGd
  have k2d := k2c.trans kd
  have hzd := (rSlc rRun).rdk hzc kd
  have oD2 := oD.keep kd
  have oF2 := oF.keep kd
  have hp0 : ¬ (p : Int) < 0 := by omega
  have hpL : ¬ (l.length : Int) ≤ p := by omega
  have ixD : ∀ H0 : Heap, vidx H0 1 cv (.int .i64 (p : Int)) = some (adr cv p 1 0, H0) := fun H0 => (oD2.sl (fZ_len .i64)).idx (by omega)
  have eD := IntsK.ld (NewF.intsK oD2) (by omega : p < DD.length)
  rw [show DD.getD p 0 = gi DD p from rfl, hdn] at eD
  have ixF : ∀ H0 : Heap, vidx H0 1 cw (.int .i64 (p : Int)) = some (adr cw p 1 0, H0) := fun H0 => (oF2.sl (fZ_len .i64)).idx (by omega)
  have eF := IntsK.ld (NewF.intsK oF2) (by omega : p < FF.length)
  rw [show FF.getD p 0 = gi FF p from rfl] at eF
  have ffr : ¬ f < gi FF p := by omega
  refine G_calm rfl ?_
  first | refine cK_cut (fun T HE => T 4 = w ∧ T 5 = u ∧ T 6 = z ∧ T 9 = cv ∧ T 10 = cw ∧ T 11 = .int .i64 (j : Int) ∧ T 12 = ptr Hc.nxt 0 ∧ T 119 = .bool false ∧ HE = Hd) ?_ ?_ | refine G_cut (fun T HE => T 4 = w ∧ T 5 = u ∧ T 6 = z ∧ T 9 = cv ∧ T 10 = cw ∧ T 11 = .int .i64 (j : Int) ∧ T 12 = ptr Hc.nxt 0 ∧ T 119 = .bool false ∧ HE = Hd) ?_ ?_ | refine GO_cut (fun T HE => T 4 = w ∧ T 5 = u ∧ T 6 = z ∧ T 9 = cv ∧ T 10 = cw ∧ T 11 = .int .i64 (j : Int) ∧ T 12 = ptr Hc.nxt 0 ∧ T 119 = .bool false ∧ HE = Hd) ?_ ?_
  · by_cases hj0 : (0 : Int) < j
    · have ixp := fun H0 : Heap => slc_idx (r := rRun) (H1 := H0) (sz := 4) (i := j - 1) (k := .i64) rfl hz (by omega)
      have fxp := fun (H0 : Heap) (o off : Nat) => slc_fad (r := rRun) (H1 := H0) (sz := 4) (i := j - 1) (o := o) (off := off) rfl hz (by omega)
      obtain ⟨_, _, z2, _⟩ := run_cel hzd (by omega : j - 1 < rs.length) Hd (Keep.refl _)
      have hw3 : IntKind.i64.wrap ((j : Int) - 1) = ((j - 1 : Nat) : Int) := wrap_pred (by omega) (by omega)
      have hnp : ¬ f < (rn rs (j - 1)).2.2.1 := by have := hprev (by omega); omega
      simp (maxSteps := 4000000) (disch := omega) only [Zq, evO, vbox, wr, Zeq, if_true, if_false, Nat.reduceEqDiff, Nat.reduceAdd, Nat.reduceLeDiff, Nat.reduceSub, and_self, and_true, true_and, reduceIte, reduceCtorEq, eq_self, implies_true, forall_const, false_implies, imp_self, decide_true, decide_false, fix_nil, fix_cons, g3, g4, t3, t4, t5, t6, t8, t7, g6, g7, t9, t10, t11, gd, lw, Zfi hp0, Zfk hpL, ixD, eD, Zfh hj0, hw3, ixp, fxp, z2, Zfi hnp]
    · simp (maxSteps := 4000000) (disch := omega) only [Zq, evO, vbox, wr, Zeq, if_true, if_false, Nat.reduceEqDiff, Nat.reduceAdd, Nat.reduceLeDiff, Nat.reduceSub, and_self, and_true, true_and, reduceIte, reduceCtorEq, eq_self, implies_true, forall_const, false_implies, imp_self, decide_true, decide_false, fix_nil, fix_cons, g3, g4, t3, t4, t5, t6, t8, t7, g6, g7, t9, t10, t11, gd, lw, Zfi hp0, Zfk hpL, ixD, eD, Zfi hj0]
  rintro T HE ⟨t4, t5, t6, t9, t10, t11, t12, t119, rfl⟩
  obtain ⟨wc, hcc, fc⟩ := trip_elK hr hpl
  have ixw := fun H0 : Heap => slc_idx (r := rTrip) (H1 := H0) (sz := 2) (i := p) (k := .i64) rfl hr hpl
  have fxw := fun (H0 : Heap) (o off : Nat) => slc_fad (r := rTrip) (H1 := H0) (sz := 2) (o := o) (off := off) rfl hr hpl
  have ixk := fun H0 : Heap => slc_idx (r := rCall) (H1 := H0) (sz := 3) (i := k) (k := .i64) rfl hcc (by omega)
  have fxk := fun (H0 : Heap) (o off : Nat) => slc_fad (r := rCall) (H1 := H0) (sz := 3) (i := k) (o := o) (off := off) rfl hcc (by omega)
  have ixn := fun H0 : Heap => slc_idx (r := rCall) (H1 := H0) (sz := 3) (i := k + 1) (k := .i64) rfl hcc hkl
  have fxn := fun (H0 : Heap) (o off : Nat) => slc_fad (r := rCall) (H1 := H0) (sz := 3) (i := k + 1) (o := o) (off := off) rfl hcc hkl
  have x1 := (call_el (i := k) ((rSlc rCall).rdk hcc k2d) (by omega)).2.2.2
  have x2 := (call_el ((rSlc rCall).rdk hcc k2d) hkl).2.2.1
  rw [show (cl (tp l p).2 k).2.2 = dp l p k from rfl] at x1
  rw [show (cl (tp l p).2 (k + 1)).2.1 = av l p (k + 1) from rfl] at x2
  have h12 := d.d1 p hpl
  have hd2 := d.d2 p k hpl (by omega)
  have hd2' := d.d2 p (k + 1) hpl hkl
  have hd5 := d.d5 p hpl
  have hu2 := ints_of ((rSlc rInt).rdk hu k2d)
  have ixu := fun H0 : Heap => IntsK.idx (k' := .i64) (H1 := H0) hu2 (by rw [d.d8]; exact hpl)
  have eu := IntsK.ld hu2 (by rw [d.d8]; exact hpl : p < la.length)
  rw [show la.getD p 0 = gi la p from rfl] at eu
  have hw4 : IntKind.i64.wrap (dp l p k + gi la p) = dp l p k + gi la p := wrap64 (by omega) (by omega)
  have hw5 : IntKind.i64.wrap ((k : Int) + 1) = ((k + 1 : Nat) : Int) := by rw [wrap64 (by omega) (by omega)]; omega
  have hw6 : IntKind.i64.wrap (t - f) = t - f := wrap64 (by omega) (by omega)
  have hw7 : IntKind.i64.wrap (av l p (k + 1) - dp l p k) = av l p (k + 1) - dp l p k := wrap64 (by omega) (by omega)
  have hdur : t - f = av l p (k + 1) - dp l p k := by omega
  obtain ⟨rr, hrr⟩ : ∃ rr, rr = (if k = 0 then dp l p k + gi la p else dp l p k) := ⟨_, rfl⟩
  rw [← hrr] at hdp
  have hfr2 : ¬ f < rr := by omega
  simp (maxSteps := 4000000) (disch := omega) only [Zq, evO, vbox, wr, Zeq, if_true, if_false, Nat.reduceEqDiff, Nat.reduceAdd, Nat.reduceLeDiff, Nat.reduceSub, and_self, and_true, true_and, reduceIte, reduceCtorEq, eq_self, implies_true, forall_const, false_implies, imp_self, decide_true, decide_false, fix_nil, fix_cons, g3, g4, t3, t4, t5, t6, t8, t7, g6, g7, t9, t10, t11, gd, t12, t119, ixw, fxw, (fc HE k2d).2.2, ixk, fxk, x1]
  first | refine cK_cut (fun T HF => T 4 = w ∧ T 5 = u ∧ T 6 = z ∧ T 9 = cv ∧ T 10 = cw ∧ T 11 = .int .i64 (j : Int) ∧ T 12 = ptr Hc.nxt 0 ∧ T 13 = wc ∧ T 14 = .int .i64 rr ∧ HF = HE) ?_ ?_ | refine G_cut (fun T HF => T 4 = w ∧ T 5 = u ∧ T 6 = z ∧ T 9 = cv ∧ T 10 = cw ∧ T 11 = .int .i64 (j : Int) ∧ T 12 = ptr Hc.nxt 0 ∧ T 13 = wc ∧ T 14 = .int .i64 rr ∧ HF = HE) ?_ ?_ | refine GO_cut (fun T HF => T 4 = w ∧ T 5 = u ∧ T 6 = z ∧ T 9 = cv ∧ T 10 = cw ∧ T 11 = .int .i64 (j : Int) ∧ T 12 = ptr Hc.nxt 0 ∧ T 13 = wc ∧ T 14 = .int .i64 rr ∧ HF = HE) ?_ ?_
  · by_cases hk0 : (k : Int) = 0
    · rw [if_pos (by omega)] at hrr
      simp (maxSteps := 4000000) (disch := omega) only [Zq, evO, vbox, wr, Zeq, if_true, if_false, Nat.reduceEqDiff, Nat.reduceAdd, Nat.reduceLeDiff, Nat.reduceSub, and_self, and_true, true_and, reduceIte, reduceCtorEq, eq_self, implies_true, forall_const, false_implies, imp_self, decide_true, decide_false, fix_nil, fix_cons, g3, g4, t3, t4, t5, t6, t8, t7, g6, g7, t9, t10, t11, gd, t12, t119, Zfl hk0, ixu, eu, hw4, hrr]
    · rw [if_neg (by omega)] at hrr
      simp (maxSteps := 4000000) (disch := omega) only [Zq, evO, vbox, wr, Zeq, if_true, if_false, Nat.reduceEqDiff, Nat.reduceAdd, Nat.reduceLeDiff, Nat.reduceSub, and_self, and_true, true_and, reduceIte, reduceCtorEq, eq_self, implies_true, forall_const, false_implies, imp_self, decide_true, decide_false, fix_nil, fix_cons, g3, g4, t3, t4, t5, t6, t8, t7, g6, g7, t9, t10, t11, gd, t12, t119, Zfm hk0, hrr]
  clear t4 t5 t6 t9 t10 t11 t12 t119
  rintro T HF ⟨t4, t5, t6, t9, t10, t11, t12, t13, t14, rfl⟩
  simp (maxSteps := 4000000) (disch := omega) only [Zq, evO, vbox, wr, Zeq, if_true, if_false, Nat.reduceEqDiff, Nat.reduceAdd, Nat.reduceLeDiff, Nat.reduceSub, and_self, and_true, true_and, reduceIte, reduceCtorEq, eq_self, implies_true, forall_const, false_implies, imp_self, decide_true, decide_false, fix_nil, fix_cons, g3, g4, t3, t8, t7, g6, g7, gd, t4, t5, t6, t9, t10, t11, t12, t13, t14]
  refine G_calm rfl ?_
  obtain ⟨He, e7, o7, kk7, n7, on7⟩ := NewF.st2 (i := p) (x := .int .i64 ((k + 1 : Nat) : Int)) (y := ((k + 1 : Nat) : Int)) (fZ_len .i64) oD2 rfl rfl (by omega)
  have hgw := on7 Hc.nxt (by have := NewF.blks oD; omega)
  have gd2 := hgw.trans gd
  have oF3 := oF2.agree (by omega) (on7 (blk cw) (by rw [hcb, hcx]; omega))
  obtain ⟨Hg, e8, o8, kk8, n8, on8⟩ := NewF.st2 (i := p) (x := .int .i64 t) (y := t) (fZ_len .i64) oF3 rfl rfl (by omega)
  have hset1 : dnS DD ((p : Int), (k : Int), f, t) = DD.set p ((k + 1 : Nat) : Int) := by simp [dnS]
  have hset2 : frS FF ((p : Int), (k : Int), f, t) = FF.set p t := by simp [frS]
  simp (maxSteps := 4000000) (disch := omega) only [Zq, evO, vbox, wr, Zeq, if_true, if_false, Nat.reduceEqDiff, Nat.reduceAdd, Nat.reduceLeDiff, Nat.reduceSub, and_self, and_true, true_and, reduceIte, reduceCtorEq, eq_self, implies_true, forall_const, false_implies, imp_self, decide_true, decide_false, fix_nil, fix_cons, g3, g4, t3, t8, t7, g6, g7, gd, t4, t5, t6, t9, t10, t11, t12, t13, t14, Zfi hfr2, ixF, eF, Zfi ffr, hw6, ixn, fxn, x2, hw5, ixk, fxk, x1, hw7, Zfl hdur, ixD, e7, gd2, e8]
  rw [hset1, hset2]
  exact ⟨hjn, kk8 H9 (Nat.le_refl _) (kk7 H9 (Nat.le_refl _) (kc.trans kd)), o7.agree (by omega) (on8 (blk cv) (by rw [hcb, hcx]; omega)), o8⟩
theorem go_laws_FnDay (H : Heap) (xs : List Value) (h : GoodArgs Try.prog H Try.f4.params.toList xs) : ∃ H', CR Try.prog 4 xs H (.bool true) H' := by
  rw [Try.params4] at h
  obtain ⟨v, l, rfl, h1, h2⟩ := good_args_cons h
  obtain rfl := good_args_nil h2
  obtain ⟨_, g⟩ := goodV_one (by kernel_rfl) h1
  obtain ⟨w, code, e, hi, hm, hwf⟩ := good_ints (e := 5) (k := .u8) (by kernel_rfl) (by kernel_rfl) (by kernel_rfl) g
  simp at e
  subst e
  obtain ⟨r, H', hr, rfl⟩ := r_laws_FnDay hi (fun x hx => wf8 (hwf x hx))
  exact ⟨H', hr⟩
end Go.Proofs.Ytjjglonmaajjoaa.AX
