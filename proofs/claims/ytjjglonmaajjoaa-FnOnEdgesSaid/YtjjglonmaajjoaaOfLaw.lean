/- Who is on the edges in a drawn minute of a drawn day: the law's run. No condition; of the program: the functions' forms. -/
import Derived.Test.YtjjglonmaajjoaaDoe
import Derived.Test.YtjjglonmaajjoaaDw6
namespace Go.Proofs.Ytjjglonmaajjoaa.AX
open Go
set_option maxRecDepth 10000
set_option maxHeartbeats 4000000
set_option linter.unusedSimpArgs false
set_option linter.unusedVariables false
theorem r_laws_sameInts {H : Heap} {v w : Value} {xs : List Int} (hv : Ints H v xs) (hw : Ints H w xs) (hl : xs.length ≤ 1000) : Run Try.prog 28 [v, w] H fun r H' => Keep H H' ∧ r = .bool true := by
  have lv := fun H1 : Heap => IntsK.len_ (H1 := H1) hv
  have lw := fun H1 : Heap => IntsK.len_ (H1 := H1) hw
  refine Run.intro c28 rfl ?_
  simp (maxSteps := 4000000) (disch := omega) only [Zq, evO, vbox, wr, Zeq, if_true, if_false, Nat.reduceEqDiff, Nat.reduceAdd, Nat.reduceLeDiff, Nat.reduceSub, and_self, and_true, true_and, reduceIte, reduceCtorEq, eq_self, implies_true, forall_const, false_implies, imp_self, decide_true, decide_false, x28, lv, lw]
  refine G_forF [0, 1] (xs.length) (fun i T H1 => T 5 = .int .i64 (i : Int) ∧ H1 = H) 0 (Nat.zero_le _) ?_ ?_
  · simp (maxSteps := 4000000) (disch := omega) only [Zq, evO, vbox, wr, Zeq, if_true, if_false, Nat.reduceEqDiff, Nat.reduceAdd, Nat.reduceLeDiff, Nat.reduceSub, and_self, and_true, true_and, reduceIte, reduceCtorEq, eq_self, implies_true, forall_const, false_implies, imp_self, decide_true, decide_false, fix_nil, fix_cons]
  rintro i T H1 hi hT ⟨t5, rfl⟩
  simp only [fix_nil, fix_cons, Zq, evO, vbox, wr, Zeq, if_true, if_false, Nat.reduceEqDiff, Nat.reduceAdd, Nat.reduceLeDiff, Nat.reduceSub, and_self, and_true, true_and, reduceIte, reduceCtorEq, eq_self, implies_true, forall_const, false_implies, imp_self, decide_true, decide_false] at hT
  obtain ⟨t0, t1⟩ := hT
  by_cases hin : i < xs.length
  · have ixv := fun H0 : Heap => IntsK.idx (k' := .i64) (H1 := H0) hv hin
    have ixw := fun H0 : Heap => IntsK.idx (k' := .i64) (H1 := H0) hw hin
    have ev := IntsK.ld hv hin
    have ew := IntsK.ld hw hin
    simp (maxSteps := 4000000) (disch := omega) only [Zq, evO, vbox, wr, Zeq, if_true, if_false, Nat.reduceEqDiff, Nat.reduceAdd, Nat.reduceLeDiff, Nat.reduceSub, and_self, and_true, true_and, reduceIte, reduceCtorEq, eq_self, implies_true, forall_const, false_implies, imp_self, decide_true, decide_false, fix_nil, fix_cons, t0, t1, t5, lv]
    refine G_calm rfl ?_
    simp (maxSteps := 4000000) (disch := omega) only [Zq, evO, vbox, wr, Zeq, if_true, if_false, Nat.reduceEqDiff, Nat.reduceAdd, Nat.reduceLeDiff, Nat.reduceSub, and_self, and_true, true_and, reduceIte, reduceCtorEq, eq_self, implies_true, forall_const, false_implies, imp_self, decide_true, decide_false, fix_nil, fix_cons, t0, t1, t5, ixv, ixw, ev, ew]
    exact hin
  obtain rfl : i = xs.length := by omega
  simp (maxSteps := 4000000) (disch := omega) only [Zq, evO, vbox, wr, Zeq, if_true, if_false, Nat.reduceEqDiff, Nat.reduceAdd, Nat.reduceLeDiff, Nat.reduceSub, and_self, and_true, true_and, reduceIte, reduceCtorEq, eq_self, implies_true, forall_const, false_implies, imp_self, decide_true, decide_false, fix_nil, fix_cons, t0, t1, t5, lv]
  exact Keep.refl _
theorem r_laws_within {H : Heap} {v : Value} {xs : List Int} {x : Int} (hv : Ints H v xs) (hl : xs.length ≤ 1000) (hx : x ∈ xs) : Run Try.prog 30 [v, .int .i64 x] H fun r H' => Keep H H' ∧ r = .bool true := by
  have lv := fun H1 : Heap => IntsK.len_ (H1 := H1) hv
  refine Run.intro c30 rfl ?_
  simp (maxSteps := 4000000) (disch := omega) only [Zq, evO, vbox, wr, Zeq, if_true, if_false, Nat.reduceEqDiff, Nat.reduceAdd, Nat.reduceLeDiff, Nat.reduceSub, and_self, and_true, true_and, reduceIte, reduceCtorEq, eq_self, implies_true, forall_const, false_implies, imp_self, decide_true, decide_false, x30]
  refine G_forF [0, 1] (xs.length) (fun i T H1 => T 5 = .int .i64 (i : Int) ∧ H1 = H ∧ ∀ j, j < i → xs.getD j 0 ≠ x) 0 (Nat.zero_le _) ?_ ?_
  · simp (maxSteps := 4000000) (disch := omega) only [Zq, evO, vbox, wr, Zeq, if_true, if_false, Nat.reduceEqDiff, Nat.reduceAdd, Nat.reduceLeDiff, Nat.reduceSub, and_self, and_true, true_and, reduceIte, reduceCtorEq, eq_self, implies_true, forall_const, false_implies, imp_self, decide_true, decide_false, fix_nil, fix_cons]
    exact fun j hj => by omega
  rintro i T H1 hi hT ⟨t5, rfl, hno⟩
  simp only [fix_nil, fix_cons, Zq, evO, vbox, wr, Zeq, if_true, if_false, Nat.reduceEqDiff, Nat.reduceAdd, Nat.reduceLeDiff, Nat.reduceSub, and_self, and_true, true_and, reduceIte, reduceCtorEq, eq_self, implies_true, forall_const, false_implies, imp_self, decide_true, decide_false] at hT
  obtain ⟨t0, t1⟩ := hT
  by_cases hin : i < xs.length
  · have ixv := fun H0 : Heap => IntsK.idx (k' := .i64) (H1 := H0) hv hin
    have ev := IntsK.ld hv hin
    by_cases c : xs.getD i 0 = x
    · simp (maxSteps := 4000000) (disch := omega) only [Zq, evO, vbox, wr, Zeq, if_true, if_false, Nat.reduceEqDiff, Nat.reduceAdd, Nat.reduceLeDiff, Nat.reduceSub, and_self, and_true, true_and, reduceIte, reduceCtorEq, eq_self, implies_true, forall_const, false_implies, imp_self, decide_true, decide_false, fix_nil, fix_cons, t0, t1, t5, lv, ixv, ev, Zfl c]
      exact Keep.refl _
    · simp (maxSteps := 4000000) (disch := omega) only [Zq, evO, vbox, wr, Zeq, if_true, if_false, Nat.reduceEqDiff, Nat.reduceAdd, Nat.reduceLeDiff, Nat.reduceSub, and_self, and_true, true_and, reduceIte, reduceCtorEq, eq_self, implies_true, forall_const, false_implies, imp_self, decide_true, decide_false, fix_nil, fix_cons, t0, t1, t5, lv, ixv, ev, Zfm c]
      exact ⟨hin, fun j hj => by
        by_cases e : j = i
        · subst e; exact c
        · exact hno j (by omega)⟩
  exfalso
  obtain ⟨j, hj, rfl⟩ := List.mem_iff_getElem.1 hx
  exact hno j (by omega) (getD_get _ _ hj)
theorem mapsum_le {α : Type} {f : α → Nat} {b : Nat} : ∀ {xs : List α}, (∀ x ∈ xs, f x ≤ b) → (xs.map f).sum ≤ b * xs.length
  | [], _ => by simp
  | x :: xs, h => by
    have h1 := h x (by simp)
    have h2 := mapsum_le (f := f) (b := b) (xs := xs) (fun y hy => h y (by simp [hy]))
    rw [List.map_cons, List.sum_cons, List.length_cons, Nat.mul_add, Nat.mul_one]
    omega
theorem trips_tot {n : Int} {es : List Ed} {l : List Tp} (h : ridden n es l = true) : (rSlc rTrip).tot l ≤ 1048576 := by
  obtain ⟨_, h24, htp, _⟩ := ridden_get h
  have key : ∀ x ∈ l, rTrip.tot x ≤ 100 := fun x hx => by
    obtain ⟨i, hi, rfl⟩ := List.mem_iff_getElem.1 hx
    have := htp i hi
    rw [tp, getD_get _ _ hi] at this
    generalize l[i] = t at this
    obtain ⟨s, cs⟩ := t
    rw [trip_tot, flat_tot]
    simp only [tpOk, nmOk, Bool.and_eq_true, inR_iff] at this
    omega
  have := mapsum_le (f := rTrip.tot) key
  show l.length + (l.map rTrip.tot).sum ≤ _
  omega
theorem r_laws_FnOnEdges {H : Heap} {v0 : Value} {code : List Int} (h : Bts' H v0 code) (hc : ∀ x ∈ code, 0 ≤ x ∧ x ≤ 255) : Run Try.prog 5 [v0] H fun r _ => r = .bool true := by
  refine Run.intro c5 rfl ?_
  simp (maxSteps := 4000000) (disch := omega) only [Zq, evO, vbox, wr, Zeq, if_true, if_false, Nat.reduceEqDiff, Nat.reduceAdd, Nat.reduceLeDiff, Nat.reduceSub, and_self, and_true, true_and, reduceIte, reduceCtorEq, eq_self, implies_true, forall_const, false_implies, imp_self, decide_true, decide_false, x5]
  refine GO_call ((r_laws_big h).mono ?_)
  rintro _ H1 ⟨k1, rfl⟩
  by_cases hl : code.length ≤ 1048576
  rotate_left
  · simp (maxSteps := 4000000) (disch := omega) only [Zq, evO, vbox, wr, Zeq, if_true, if_false, Nat.reduceEqDiff, Nat.reduceAdd, Nat.reduceLeDiff, Nat.reduceSub, and_self, and_true, true_and, reduceIte, reduceCtorEq, eq_self, implies_true, forall_const, false_implies, imp_self, decide_true, decide_false, fix_nil, fix_cons]
  simp (maxSteps := 4000000) (disch := omega) only [Zq, evO, vbox, wr, Zeq, if_true, if_false, Nat.reduceEqDiff, Nat.reduceAdd, Nat.reduceLeDiff, Nat.reduceSub, and_self, and_true, true_and, reduceIte, reduceCtorEq, eq_self, implies_true, forall_const, false_implies, imp_self, decide_true, decide_false, fix_nil, fix_cons]
  refine GO_call ((r_spec_DrawRightDay (IntsK.keep h k1) hl hc).mono ?_)
  rintro _ H2 ⟨k2, N, vn, es, w, l, u, la, rfl, he, hr, hu, hel, hll, hcl, ok⟩
  obtain ⟨d, rok⟩ := dy_of ok
  have lv : ∀ H : Heap, vlen H vn = some (.int .i64 es.length, H) := fun _ => slc_len he
  have htl := trips_tot rok
  obtain ⟨ce, se⟩ := slc_sl (sz := 4) (r := rEdge) rfl he
  have ne := Sl.noTup_ se
  have ve := Sl.cells_ se
  simp (maxSteps := 4000000) (disch := omega) only [Zq, evO, vbox, wr, Zeq, if_true, if_false, Nat.reduceEqDiff, Nat.reduceAdd, Nat.reduceLeDiff, Nat.reduceSub, and_self, and_true, true_and, reduceIte, reduceCtorEq, eq_self, implies_true, forall_const, false_implies, imp_self, decide_true, decide_false, fix_nil, fix_cons, ne, ve]
  generalize hG3 : (H2.push [.int .i64 0, .slice none 0 0]).set H2.nxt [.int .i64 (N : Int), vn] = H3
  have k3 : Keep H2 H3 := by rw [← hG3]; repeat' (first | exact Keep.refl _ | assumption | refine Keep.push' ?_ | refine Keep.set' ?_ ?_ | refine Keep.moved' ?_ ?_ | omega)
  have g3 : H3.get H2.nxt = some (.own [.int .i64 (N : Int), vn]) := by rw [← hG3, Zbi, if_pos rfl]
  have n3 : H3.nxt = H2.nxt + 1 := by rw [← hG3, Zbh, Zbg]
  have k13 := k2.trans k3
  refine GO_call ((r_laws_at (i := 3) (IntsK.keep h (k1.trans k13)) hl (by omega) hc).mono ?_)
  rintro _ H4 ⟨k4, rfl⟩
  have hm := atR_range (i := 3) hc
  generalize atR code 3 = m at hm
  have n4 := k4.nxt
  have g4 := (k4.get H2.nxt (by omega)).trans g3
  have k24 := k3.trans k4
  simp (maxSteps := 4000000) (disch := omega) only [Zq, evO, vbox, wr, Zeq, if_true, if_false, Nat.reduceEqDiff, Nat.reduceAdd, Nat.reduceLeDiff, Nat.reduceSub, and_self, and_true, true_and, reduceIte, reduceCtorEq, eq_self, implies_true, forall_const, false_implies, imp_self, decide_true, decide_false, fix_nil, fix_cons, g3, g4]
  refine GO_call ((r_impl_OnEdges (n := (N : Int)) ((rSlc rEdge).rdk he k24) (by omega) ((rSlc rTrip).rdk hr k24) htl ((rSlc rInt).rdk hu k24) (by have := d.d8; omega) m).mono ?_)
  rintro y H5 ⟨k5, oy⟩
  have n5 := k5.nxt
  have g5 := (k5.get (H2.nxt) (by omega)).trans g4
  have k25 := k24.trans k5
  simp (maxSteps := 4000000) (disch := omega) only [Zq, evO, vbox, wr, Zeq, if_true, if_false, Nat.reduceEqDiff, Nat.reduceAdd, Nat.reduceLeDiff, Nat.reduceSub, and_self, and_true, true_and, reduceIte, reduceCtorEq, eq_self, implies_true, forall_const, false_implies, imp_self, decide_true, decide_false, fix_nil, fix_cons, g3, g4, g5]
  refine GO_call ((r_impl_PlayDay (n := (N : Int)) ((rSlc rEdge).rdk he k25) (by omega) ((rSlc rTrip).rdk hr k25) htl ((rSlc rInt).rdk hu k25) (by have := d.d8; omega)).mono ?_)
  rintro z H6 ⟨k6, oz⟩
  have n6 := k6.nxt
  have g6 := (k6.get (H2.nxt) (by omega)).trans g5
  have k26 := k25.trans k6
  rw [noOr, if_pos ok] at oy oz
  have hy6 := ints_of ((rSlc rInt).rdk oy.rd k6)
  have ly := fun H1 : Heap => IntsK.len_ (H1 := H1) hy6
  have hLl := onL_len (es := es) (l := l) (la := la) (m := m)
  have hgi := fun e (h : e < es.length) => onL_get (es := es) (l := l) (la := la) (m := m) h
  rw [hLl] at ly
  simp (maxSteps := 4000000) (disch := omega) only [Zq, evO, vbox, wr, Zeq, if_true, if_false, Nat.reduceEqDiff, Nat.reduceAdd, Nat.reduceLeDiff, Nat.reduceSub, and_self, and_true, true_and, reduceIte, reduceCtorEq, eq_self, implies_true, forall_const, false_implies, imp_self, decide_true, decide_false, fix_nil, fix_cons, g3, g4, g5, g6, ly, lv]
  refine GO_call ((r_spec_OnEdges (n := (N : Int)) ((rSlc rEdge).rdk he k26) (by omega) ((rSlc rTrip).rdk hr k26) htl ((rSlc rInt).rdk hu k26) (by have := d.d8; omega) m).mono ?_)
  rintro x H7 ⟨k7, ox⟩
  have n7 := k7.nxt
  have g7 := (k7.get (H2.nxt) (by omega)).trans g6
  rw [noOr, if_pos ok] at ox
  have hx7 := ints_of ox.rd
  have hy7 := IntsK.keep hy6 k7
  simp (maxSteps := 4000000) (disch := omega) only [Zq, evO, vbox, wr, Zeq, if_true, if_false, Nat.reduceEqDiff, Nat.reduceAdd, Nat.reduceLeDiff, Nat.reduceSub, and_self, and_true, true_and, reduceIte, reduceCtorEq, eq_self, implies_true, forall_const, false_implies, imp_self, decide_true, decide_false, fix_nil, fix_cons, g3, g4, g5, g6, g7]
  refine GO_call ((r_laws_sameInts hy7 hx7 (by omega)).mono ?_)
  rintro _ H8 ⟨k8, rfl⟩
  have n8 := k8.nxt
  have hy8 := IntsK.keep hy7 k8
  have hz8 := (rSlc rRun).rdk oz.rd (k7.trans k8)
  have hap := pday_apt d
  obtain ⟨S, g, hf, ep⟩ := pday_fact d
  have hlen := gd_len d g
  have hca := cA_le (m := m) (pday es l la)
  have hru : ∀ r, r ∈ pday es l la → 0 ≤ r.1 ∧ 0 ≤ rnE es l r ∧ rnE es l r < es.length := fun r hrr => by
    rw [ep] at hrr
    obtain ⟨i, k, h1, h2, h3, h4⟩ := (g.gt r hrr).2.2.2
    have := d.d4 i k h3 h4
    rw [rnE, h1, h2, Int.toNat_natCast, Int.toNat_natCast]
    omega
  have hrl : (pday es l la).length ≤ 264 := by rw [ep]; exact hlen
  have hce := cA_cE (m := m) hap hru
  have hon1 := fun e k (hek : k ≠ e) (he : 0 ≤ onE es l (pday es l la) m e) => on_one hap (fun r hr => (hru r hr).1) hek he
  have htold := fun j (hj : j < (pday es l la).length) (ha : actv m (rn (pday es l la) j)) e (he : rnE es l (rn (pday es l la) j) = ((e : Nat) : Int)) => on_told hap hj ha he
  generalize onL es l la m = LL at hLl hgi hy8
  generalize pday es l la = rs at hgi hz8 hca hru hrl hce hon1 htold
  have lz : ∀ H : Heap, vlen H z = some (.int .i64 rs.length, H) := fun _ => slc_len hz8
  simp (maxSteps := 4000000) (disch := omega) only [Zq, evO, vbox, wr, Zeq, if_true, if_false, Nat.reduceEqDiff, Nat.reduceAdd, Nat.reduceLeDiff, Nat.reduceSub, and_self, and_true, true_and, reduceIte, reduceCtorEq, eq_self, implies_true, forall_const, false_implies, imp_self, decide_true, decide_false, fix_nil, fix_cons, g3, g4, g5, g6, g7]
  refine G_forF [6, 7, 8] (rs.length) (fun j T H9 => T 10 = .int .i64 (j : Int) ∧ T 9 = .int .i64 ((cA m (rs.take j) : Nat) : Int) ∧ Keep H8 H9) 0 (Nat.zero_le _) ?_ ?_
  · simp (maxSteps := 4000000) (disch := omega) only [Zq, evO, vbox, wr, Zeq, if_true, if_false, Nat.reduceEqDiff, Nat.reduceAdd, Nat.reduceLeDiff, Nat.reduceSub, and_self, and_true, true_and, reduceIte, reduceCtorEq, eq_self, implies_true, forall_const, false_implies, imp_self, decide_true, decide_false, fix_nil, fix_cons, g3, g4, g5, g6, g7]
    exact ⟨rfl, Keep.refl _⟩
  rintro j T H9 hj hT ⟨t10, t9, k9⟩
  simp only [fix_nil, fix_cons, Zq, evO, vbox, wr, Zeq, if_true, if_false, Nat.reduceEqDiff, Nat.reduceAdd, Nat.reduceLeDiff, Nat.reduceSub, and_self, and_true, true_and, reduceIte, reduceCtorEq, eq_self, implies_true, forall_const, false_implies, imp_self, decide_true, decide_false] at hT
  obtain ⟨t6, t7, t8⟩ := hT
  by_cases hjn : j < rs.length
  · have ixz := fun H0 : Heap => slc_idx (r := rRun) (H1 := H0) (sz := 4) (i := j) (k := .i64) rfl hz8 hjn
    have fxz := fun (H0 : Heap) (o off : Nat) => slc_fad (r := rRun) (H1 := H0) (sz := 4) (i := j) (o := o) (off := off) rfl hz8 hjn
    obtain ⟨z0, z1, z2, z3⟩ := run_cel hz8 hjn H9 k9
    have hmem : rn rs j ∈ rs := by rw [rn, getD_get _ _ hjn]; exact List.getElem_mem hjn
    obtain ⟨q1, q2, q3⟩ := hru _ hmem
    have hct := cA_take (m := m) hjn
    have hcl' := cA_le (m := m) (rs.take j)
    rw [List.length_take] at hcl'
    by_cases c1 : (rn rs j).2.2.1 ≤ m
    rotate_left
    · rw [if_neg (fun hh => c1 hh.1)] at hct
      simp (maxSteps := 4000000) (disch := omega) only [Zq, evO, vbox, wr, Zeq, if_true, if_false, Nat.reduceEqDiff, Nat.reduceAdd, Nat.reduceLeDiff, Nat.reduceSub, and_self, and_true, true_and, reduceIte, reduceCtorEq, eq_self, implies_true, forall_const, false_implies, imp_self, decide_true, decide_false, fix_nil, fix_cons, g3, g4, g5, g6, g7, t6, t7, t8, t10, t9, lz, ixz, fxz, z2, Zfk c1]
      exact ⟨hjn, by rw [hct, Nat.add_zero], k9⟩
    by_cases c2 : m < (rn rs j).2.2.2
    rotate_left
    · rw [if_neg (fun hh => c2 hh.2)] at hct
      simp (maxSteps := 4000000) (disch := omega) only [Zq, evO, vbox, wr, Zeq, if_true, if_false, Nat.reduceEqDiff, Nat.reduceAdd, Nat.reduceLeDiff, Nat.reduceSub, and_self, and_true, true_and, reduceIte, reduceCtorEq, eq_self, implies_true, forall_const, false_implies, imp_self, decide_true, decide_false, fix_nil, fix_cons, g3, g4, g5, g6, g7, t6, t7, t8, t10, t9, lz, ixz, fxz, z2, z3, Zfj c1, Zfi c2]
      exact ⟨hjn, by rw [hct, Nat.add_zero], k9⟩
    rw [if_pos ⟨c1, c2⟩] at hct
    have hw1 : IntKind.i64.wrap (((cA m (rs.take j) : Nat) : Int) + 1) = ((cA m (rs.take (j + 1)) : Nat) : Int) := by rw [wrap64 (by omega) (by omega), hct]; omega
    simp (maxSteps := 4000000) (disch := omega) only [Zq, evO, vbox, wr, Zeq, if_true, if_false, Nat.reduceEqDiff, Nat.reduceAdd, Nat.reduceLeDiff, Nat.reduceSub, and_self, and_true, true_and, reduceIte, reduceCtorEq, eq_self, implies_true, forall_const, false_implies, imp_self, decide_true, decide_false, fix_nil, fix_cons, g3, g4, g5, g6, g7, t6, t7, t8, t10, t9, lz, ixz, fxz, z0, z2, z3, Zfj c1, Zfh c2, hw1]
    obtain ⟨e, hee⟩ : ∃ e : Nat, rnE es l (rn rs j) = e := ⟨(rnE es l (rn rs j)).toNat, by omega⟩
    have hin : (rn rs j).1 ∈ LL := by
      rw [← htold j hjn ⟨c1, c2⟩ e hee, ← hgi e (by omega), gi, getD_get _ _ (by omega)]
      exact List.getElem_mem _
    refine GO_call ((r_laws_within (IntsK.keep hy8 k9) (by omega) hin).mono ?_)
    rintro _ H10 ⟨k10, rfl⟩
    have n10 := k10.nxt
    simp (maxSteps := 4000000) (disch := omega) only [Zq, evO, vbox, wr, Zeq, if_true, if_false, Nat.reduceEqDiff, Nat.reduceAdd, Nat.reduceLeDiff, Nat.reduceSub, and_self, and_true, true_and, reduceIte, reduceCtorEq, eq_self, implies_true, forall_const, false_implies, imp_self, decide_true, decide_false, fix_nil, fix_cons, g3, g4, g5, g6, g7, t6, t7, t8, t10, t9]
    exact ⟨hjn, k9.trans k10⟩
  obtain rfl : j = rs.length := by omega
  have hcc := hce rs.length (Nat.le_refl _)
  rw [List.take_length] at t9 hcc
  simp (maxSteps := 4000000) (disch := omega) only [Zq, evO, vbox, wr, Zeq, if_true, if_false, Nat.reduceEqDiff, Nat.reduceAdd, Nat.reduceLeDiff, Nat.reduceSub, and_self, and_true, true_and, reduceIte, reduceCtorEq, eq_self, implies_true, forall_const, false_implies, imp_self, decide_true, decide_false, fix_nil, fix_cons, g3, g4, g5, g6, g7, t6, t7, t8, t10, t9, lz]
  clear hj hjn t10
  have hy9 := IntsK.keep hy8 k9
  have ly9 := fun H1 : Heap => IntsK.len_ (H1 := H1) hy9
  refine G_forF [7] (es.length) (fun i T HA => T 11 = .int .i64 (i : Int) ∧ T 9 = .int .i64 (((cA m rs : Nat) : Int) - ((cE (onE es l rs m) i : Nat) : Int)) ∧ Keep H9 HA) 0 (Nat.zero_le _) ?_ ?_
  · simp (maxSteps := 4000000) (disch := omega) only [Zq, evO, vbox, wr, Zeq, if_true, if_false, Nat.reduceEqDiff, Nat.reduceAdd, Nat.reduceLeDiff, Nat.reduceSub, and_self, and_true, true_and, reduceIte, reduceCtorEq, eq_self, implies_true, forall_const, false_implies, imp_self, decide_true, decide_false, fix_nil, fix_cons, g3, g4, g5, g6, g7, t6, t7, t8, t9]
    exact ⟨by simp [cE], Keep.refl _⟩
  rintro i T HA hi hT ⟨t11, t9, kA⟩
  simp only [fix_nil, fix_cons, Zq, evO, vbox, wr, Zeq, if_true, if_false, Nat.reduceEqDiff, Nat.reduceAdd, Nat.reduceLeDiff, Nat.reduceSub, and_self, and_true, true_and, reduceIte, reduceCtorEq, eq_self, implies_true, forall_const, false_implies, imp_self, decide_true, decide_false, t6, t7, t8, t9] at hT
  have t7 := hT
  have hcb := cE_le (onE es l rs m) i
  by_cases hin : i < es.length
  rotate_left
  · obtain rfl : i = es.length := by omega
    simp (maxSteps := 4000000) (disch := omega) only [Zq, evO, vbox, wr, Zeq, if_true, if_false, Nat.reduceEqDiff, Nat.reduceAdd, Nat.reduceLeDiff, Nat.reduceSub, and_self, and_true, true_and, reduceIte, reduceCtorEq, eq_self, implies_true, forall_const, false_implies, imp_self, decide_true, decide_false, fix_nil, fix_cons, g3, g4, g5, g6, g7, t6, t7, t8, t9, t11, ly9, hLl]
  have hyA := IntsK.keep hy9 kA
  have ixy := fun H0 : Heap => IntsK.idx (k' := .i64) (H1 := H0) hyA (by omega : i < LL.length)
  have eA := IntsK.ld hyA (by omega : i < LL.length)
  rw [show LL.getD i 0 = gi LL i from rfl, hgi i hin] at eA
  have hst : cE (onE es l rs m) (i + 1) = cE (onE es l rs m) i + if 0 ≤ onE es l rs m i then 1 else 0 := rfl
  by_cases c1 : onE es l rs m i < 0
  · rw [if_neg (by omega)] at hst
    simp (maxSteps := 4000000) (disch := omega) only [Zq, evO, vbox, wr, Zeq, if_true, if_false, Nat.reduceEqDiff, Nat.reduceAdd, Nat.reduceLeDiff, Nat.reduceSub, and_self, and_true, true_and, reduceIte, reduceCtorEq, eq_self, implies_true, forall_const, false_implies, imp_self, decide_true, decide_false, fix_nil, fix_cons, g3, g4, g5, g6, g7, t6, t7, t8, t9, t11, ly9, hLl, ixy, eA, Zfh c1]
    exact ⟨hin, by rw [hst, Nat.add_zero], kA⟩
  rw [if_pos (by omega)] at hst
  have hw2 : IntKind.i64.wrap (((cA m rs : Nat) : Int) - ((cE (onE es l rs m) i : Nat) : Int) - 1) = ((cA m rs : Nat) : Int) - ((cE (onE es l rs m) (i + 1) : Nat) : Int) := by rw [wrap64 (by omega) (by omega), hst]; omega
  simp (maxSteps := 4000000) (disch := omega) only [Zq, evO, vbox, wr, Zeq, if_true, if_false, Nat.reduceEqDiff, Nat.reduceAdd, Nat.reduceLeDiff, Nat.reduceSub, and_self, and_true, true_and, reduceIte, reduceCtorEq, eq_self, implies_true, forall_const, false_implies, imp_self, decide_true, decide_false, fix_nil, fix_cons, g3, g4, g5, g6, g7, t6, t7, t8, t9, t11, ly9, hLl, ixy, eA, Zfi c1, hw2]
  refine G_forF [7, 9, 11] (i) (fun k T HB => T 12 = .int .i64 (k : Int) ∧ HB = HA) 0 (Nat.zero_le _) ?_ ?_
  · simp (maxSteps := 4000000) (disch := omega) only [Zq, evO, vbox, wr, Zeq, if_true, if_false, Nat.reduceEqDiff, Nat.reduceAdd, Nat.reduceLeDiff, Nat.reduceSub, and_self, and_true, true_and, reduceIte, reduceCtorEq, eq_self, implies_true, forall_const, false_implies, imp_self, decide_true, decide_false, fix_nil, fix_cons, g3, g4, g5, g6, g7, t6, t7, t8, t9, t11]
  rintro k T HB hk hT ⟨t12, rfl⟩
  simp only [fix_nil, fix_cons, Zq, evO, vbox, wr, Zeq, if_true, if_false, Nat.reduceEqDiff, Nat.reduceAdd, Nat.reduceLeDiff, Nat.reduceSub, and_self, and_true, true_and, reduceIte, reduceCtorEq, eq_self, implies_true, forall_const, false_implies, imp_self, decide_true, decide_false, t6, t7, t8, t9, t11] at hT
  obtain ⟨t7, t9, t11⟩ := hT
  by_cases hki : k < i
  rotate_left
  · obtain rfl : k = i := by omega
    simp (maxSteps := 4000000) (disch := omega) only [Zq, evO, vbox, wr, Zeq, if_true, if_false, Nat.reduceEqDiff, Nat.reduceAdd, Nat.reduceLeDiff, Nat.reduceSub, and_self, and_true, true_and, reduceIte, reduceCtorEq, eq_self, implies_true, forall_const, false_implies, imp_self, decide_true, decide_false, fix_nil, fix_cons, g3, g4, g5, g6, g7, t6, t7, t8, t9, t11, t12]
    exact ⟨hin, kA⟩
  have ixk := fun H0 : Heap => IntsK.idx (k' := .i64) (H1 := H0) hyA (by omega : k < LL.length)
  have eK := IntsK.ld hyA (by omega : k < LL.length)
  rw [show LL.getD k 0 = gi LL k from rfl, hgi k (by omega)] at eK
  have hne := hon1 i k (by omega) (by omega)
  simp (maxSteps := 4000000) (disch := omega) only [Zq, evO, vbox, wr, Zeq, if_true, if_false, Nat.reduceEqDiff, Nat.reduceAdd, Nat.reduceLeDiff, Nat.reduceSub, and_self, and_true, true_and, reduceIte, reduceCtorEq, eq_self, implies_true, forall_const, false_implies, imp_self, decide_true, decide_false, fix_nil, fix_cons, g3, g4, g5, g6, g7, t6, t7, t8, t9, t11, t12]
  refine G_calm rfl ?_
  simp (maxSteps := 4000000) (disch := omega) only [Zq, evO, vbox, wr, Zeq, if_true, if_false, Nat.reduceEqDiff, Nat.reduceAdd, Nat.reduceLeDiff, Nat.reduceSub, and_self, and_true, true_and, reduceIte, reduceCtorEq, eq_self, implies_true, forall_const, false_implies, imp_self, decide_true, decide_false, fix_nil, fix_cons, g3, g4, g5, g6, g7, t6, t7, t8, t9, t11, t12, ixy, ixk, eA, eK, Zfm hne]
  exact hki
theorem go_laws_FnOnEdges (H : Heap) (xs : List Value) (h : GoodArgs Try.prog H Try.f5.params.toList xs) : ∃ H', CR Try.prog 5 xs H (.bool true) H' := by
  rw [Try.params5] at h
  obtain ⟨v, l, rfl, h1, h2⟩ := good_args_cons h
  obtain rfl := good_args_nil h2
  obtain ⟨_, g⟩ := goodV_one (by kernel_rfl) h1
  obtain ⟨w, code, e, hi, hm, hwf⟩ := good_ints (e := 5) (k := .u8) (by kernel_rfl) (by kernel_rfl) (by kernel_rfl) g
  simp at e
  subst e
  obtain ⟨r, H', hr, rfl⟩ := r_laws_FnOnEdges hi (fun x hx => wf8 (hwf x hx))
  exact ⟨H', hr⟩
end Go.Proofs.Ytjjglonmaajjoaa.AX
