/- Planned: both walks. No condition beyond each law's own; of the program: the functions' forms. -/
import Derived.Test.YtjjglonmaajjoaaPnb
import Derived.Test.YtjjglonmaajjoaaSrz
namespace Go.Proofs.Ytjjglonmaajjoaa.AX
open Go
set_option maxRecDepth 10000
set_option maxHeartbeats 4000000
set_option linter.unusedSimpArgs false
set_option linter.unusedVariables false
theorem blk_plan {s : List Rn} {g : Nat → Rn} (hp : s.Pairwise bfR) (B : Blk ltR 0 s.length (rn s) g) : tabX g s.length = planR s := by
  have hl : (planR s).length = s.length := (planR_perm s).length_eq
  have hs := get_srt (planR_inc hp)
  rw [hl] at hs
  have e := sorted_eq irrR (fun {x y z} h1 h2 => odR.tr h1 h2) B.s hs (fun k hk => by
    obtain ⟨q, _, q2, q3⟩ := B.into k (Nat.zero_le _) hk
    obtain ⟨r, r1, r2⟩ := mem_rn ((planR_perm s).mem_iff.2 (rn_mem q2))
    exact ⟨r, by omega, q3.trans r2⟩) (fun k hk => by
    obtain ⟨q, q1, q2⟩ := mem_rn ((planR_perm s).mem_iff.1 (rn_mem (by omega : k < (planR s).length)))
    obtain ⟨r, _, r2, r3⟩ := B.onto q (Nat.zero_le _) q1
    exact ⟨r, r2, q2.trans r3⟩)
  have := tabX_rn (planR s)
  rw [hl] at this
  rw [← this]
  exact List.map_congr_left fun k hk => e k (List.mem_range.1 hk)
section
variable {H : Heap} {v w : Value} {n : Int} {es : List Ed} {l : List Tp}
theorem r_impl_Planned (he : (rSlc rEdge).rd H [v] es) (hl : es.length ≤ 1048576) (hr : (rSlc rTrip).rd H [w] l) (ht : (rSlc rTrip).tot l ≤ 1048576) : Run Try.prog 16 [.agg #[.int .i64 n, v], w] H fun r H' => Keep H H' ∧ OwnS rRun H H' r (if ridden n es l then planR (allR l l.length) else []) := by
  have lw : ∀ H : Heap, vlen H w = some (.int .i64 l.length, H) := fun _ => slc_len hr
  refine Run.intro c16 rfl ?_
  simp (maxSteps := 4000000) (disch := omega) only [Zq, evO, vbox, wr, Zeq, if_true, if_false, Nat.reduceEqDiff, Nat.reduceAdd, Nat.reduceLeDiff, Nat.reduceSub, and_self, and_true, true_and, reduceIte, reduceCtorEq, eq_self, implies_true, forall_const, false_implies, imp_self, decide_true, decide_false, x16]
  generalize hG0 : H.push [.int .i64 n, v] = H0
  have k0 : Keep H H0 := by rw [← hG0]; exact Keep.push _ _
  have g0 : H0.get H.nxt = some (.own [.int .i64 n, v]) := by rw [← hG0, push_get', if_pos rfl]
  have n0 : H0.nxt = H.nxt + 1 := by rw [← hG0, Zbg]
  refine GO_call ((r_impl_Ridden (n := n) ((rSlc rEdge).rdk he k0) hl ((rSlc rTrip).rdk hr k0) ht).mono ?_)
  rintro _ H1 ⟨k1, rfl⟩
  have n1 := k1.nxt
  have g1 := (k1.get (H.nxt) (by omega)).trans g0
  have k01 := k0.trans k1
  have n1 := k01.nxt
  cases c1 : ridden n es l with
  | false =>
    simp (maxSteps := 4000000) (disch := omega) only [Zq, evO, vbox, wr, Zeq, if_true, if_false, Nat.reduceEqDiff, Nat.reduceAdd, Nat.reduceLeDiff, Nat.reduceSub, and_self, and_true, true_and, reduceIte, reduceCtorEq, eq_self, implies_true, forall_const, false_implies, imp_self, decide_true, decide_false, fix_nil, fix_cons, g0, g1, c1]
    exact ⟨k01, own_nil⟩
  | true =>
  obtain ⟨hes, l24, htp, _⟩ := ridden_get c1
  have hal : ∀ i, i ≤ l.length → (allR l i).length ≤ 11 * i := fun i hi => allR_len fun j hj => (tpOk_get (htp j (by omega))).2.1
  simp (maxSteps := 4000000) (disch := omega) only [Zq, evO, vbox, wr, Zeq, if_true, if_false, Nat.reduceEqDiff, Nat.reduceAdd, Nat.reduceLeDiff, Nat.reduceSub, and_self, and_true, true_and, reduceIte, reduceCtorEq, eq_self, implies_true, forall_const, false_implies, imp_self, decide_true, decide_false, fix_nil, fix_cons, g0, g1, c1, lw]
  have o0 : NewF runC 4 H1 (H1.push []) (.slice (some ⟨H1.nxt, 0, none⟩) 0 4) [] := NewF.new (Keep.refl _)
  have k2 : Keep H1 (H1.push []) := Keep.push _ _
  generalize H1.push [] = H2 at *
  refine G_forF [14, 15] (l.length) (fun i T H3 => T 16 = .int .i64 (i : Int) ∧ Keep H1 H3 ∧ ∃ u, T 5 = u ∧ NewF runC 4 H1 H3 u (allR l i)) 0 (Nat.zero_le _) ?_ ?_
  · simp (maxSteps := 4000000) (disch := omega) only [Zq, evO, vbox, wr, Zeq, if_true, if_false, Nat.reduceEqDiff, Nat.reduceAdd, Nat.reduceLeDiff, Nat.reduceSub, and_self, and_true, true_and, reduceIte, reduceCtorEq, eq_self, implies_true, forall_const, false_implies, imp_self, decide_true, decide_false, fix_nil, fix_cons, g0, g1]
    exact ⟨k2, _, rfl, o0⟩
  rintro i T H3 hi hT ⟨t16, k3, u, t5, o3⟩
  simp only [fix_nil, fix_cons, Zq, evO, vbox, wr, Zeq, if_true, if_false, Nat.reduceEqDiff, Nat.reduceAdd, Nat.reduceLeDiff, Nat.reduceSub, and_self, and_true, true_and, reduceIte, reduceCtorEq, eq_self, implies_true, forall_const, false_implies, imp_self, decide_true, decide_false] at hT
  obtain ⟨t14, t15⟩ := hT
  have k03 := k01.trans k3
  have n3 := k3.nxt
  by_cases hin : i < l.length
  rotate_left
  · obtain rfl : i = l.length := by omega
    have hN := hal l.length (Nat.le_refl _)
    obtain ⟨a, ha1, ha2, rfl, hag⟩ := o3
    simp (maxSteps := 4000000) (disch := omega) only [Zq, evO, vbox, wr, Zeq, if_true, if_false, Nat.reduceEqDiff, Nat.reduceAdd, Nat.reduceLeDiff, Nat.reduceSub, and_self, and_true, true_and, reduceIte, reduceCtorEq, eq_self, implies_true, forall_const, false_implies, imp_self, decide_true, decide_false, fix_nil, fix_cons, g0, g1, t14, t15, t16, t5]
    have R : Rw H3 a (allR l l.length).length (rn (allR l l.length)) := ⟨ha2, by rw [tabX_rn]; exact hag⟩
    have hp := allR_inc (l := l) l.length
    refine GO_call ((r_SortStable R rfl (by omega) (fun i j h1 h2 => by
      rw [rn, rn, getD_get _ _ (by omega), getD_get _ _ h2]
      exact List.pairwise_iff_getElem.1 hp i j (by omega) h2 h1)).mono ?_)
    rintro _ H4 ⟨k4, ⟨gg, R4, B4⟩, rfl⟩
    simp (maxSteps := 4000000) (disch := omega) only [Zq, evO, vbox, wr, Zeq, if_true, if_false, Nat.reduceEqDiff, Nat.reduceAdd, Nat.reduceLeDiff, Nat.reduceSub, and_self, and_true, true_and, reduceIte, reduceCtorEq, eq_self, implies_true, forall_const, false_implies, imp_self, decide_true, decide_false, fix_nil, fix_cons, g0, g1, t14, t15, t16, t5]
    have kk : Keep H H4 := ⟨by have := k4.nxt; omega, fun x hx => (k4.get x (by omega) (by omega)).trans (k03.get x hx)⟩
    have e : tabX gg (allR l l.length).length = planR (allR l l.length) := by
      by_cases h0 : 0 < (allR l l.length).length
      · exact blk_plan hp (B4 h0)
      · have : allR l l.length = [] := List.eq_nil_of_length_eq_zero (by omega)
        rw [this]
        simp [tabX, planR]
    have o4 : NewF runC 4 H H4 (.slice (some ⟨a, 0, none⟩) (allR l l.length).length 4) (planR (allR l l.length)) :=
      ⟨a, by omega, R4.1, by rw [(planR_perm _).length_eq], by rw [← e]; exact R4.2⟩
    exact ⟨kk, o4.own (hl := runC_len) (m := runM)⟩
  have ixe := fun H0 : Heap => slc_idx (r := rTrip) (H1 := H0) (sz := 2) (i := i) (k := .i64) rfl hr hin
  obtain ⟨x, hx, fc⟩ := trip_elK hr hin
  have e1 := (fc H3 k03).1
  have hxk := fun (H9 : Heap) (k : Keep H H9) => (rSlc rCall).rdk hx k
  clear fc
  obtain ⟨b2, b12, _⟩ := tpOk_get (htp i hin)
  have hai := hal i hi
  have hall : allR l (i + 1) = allR l i ++ legsU i (tp l i).2 ((tp l i).2.length - 1) := rfl
  simp (maxSteps := 4000000) (disch := omega) only [Zq, evO, vbox, wr, Zeq, if_true, if_false, Nat.reduceEqDiff, Nat.reduceAdd, Nat.reduceLeDiff, Nat.reduceSub, and_self, and_true, true_and, reduceIte, reduceCtorEq, eq_self, implies_true, forall_const, false_implies, imp_self, decide_true, decide_false, fix_nil, fix_cons, g0, g1, t14, t15, t16, t5, ixe, e1]
  generalize hG4 : (H3.push [.string ⟨#[]⟩, .slice none 0 0]).set H3.nxt [.string (tp l i).1, x] = H4
  have k4 : Keep H3 H4 := by rw [← hG4]; repeat' (first | exact Keep.refl _ | assumption | refine Keep.push' ?_ | refine Keep.set' ?_ ?_ | refine Keep.moved' ?_ ?_ | omega)
  have g4 : H4.get H3.nxt = some (.own [.string (tp l i).1, x]) := by rw [← hG4, Zbi, if_pos rfl]
  have n4 : H4.nxt = H3.nxt + 1 := by rw [← hG4, Zbh, Zbg]
  have lx : ∀ H : Heap, vlen H x = some (.int .i64 (tp l i).2.length, H) := fun _ => slc_len hx
  generalize (tp l i).1 = nm at *
  generalize (tp l i).2 = cs at *
  have o4 := o3.keep k4
  refine G_forF [6, 7, 14, 15, 16] ((cs.length - 1)) (fun k T H5 => T 8 = .int .i64 ((k + 1 : Nat) : Int) ∧ Keep H1 H5 ∧ H4.nxt ≤ H5.nxt ∧ H5.get H3.nxt = H4.get H3.nxt ∧ ∃ u, T 5 = u ∧ NewF runC 4 H1 H5 u (allR l i ++ legsU i cs k) ∧ blk u ≠ H3.nxt) 0 (Nat.zero_le _) ?_ ?_
  · simp (maxSteps := 4000000) (disch := omega) only [Zq, evO, vbox, wr, Zeq, if_true, if_false, Nat.reduceEqDiff, Nat.reduceAdd, Nat.reduceLeDiff, Nat.reduceSub, and_self, and_true, true_and, reduceIte, reduceCtorEq, eq_self, implies_true, forall_const, false_implies, imp_self, decide_true, decide_false, fix_nil, fix_cons, g0, g1, t14, t15, t16, t5, g4]
    exact ⟨rfl, k3.trans k4, _, rfl, by rw [show legsU i cs 0 = [] from rfl, List.append_nil]; exact o4, by have := o3.blksP; omega⟩
  rintro k T H5 hk hT ⟨t8, k15, n45, g45, u5, t5, o5, hb5⟩
  simp only [fix_nil, fix_cons, Zq, evO, vbox, wr, Zeq, if_true, if_false, Nat.reduceEqDiff, Nat.reduceAdd, Nat.reduceLeDiff, Nat.reduceSub, and_self, and_true, true_and, reduceIte, reduceCtorEq, eq_self, implies_true, forall_const, false_implies, imp_self, decide_true, decide_false, t14, t15, t16, t5] at hT
  obtain ⟨t6, t7, t14, t15, t16⟩ := hT
  have k05 := k01.trans k15
  have n4 := k4.nxt
  have g5 := g45.trans g4
  by_cases hkn : k + 1 < cs.length
  rotate_left
  · obtain rfl : k = cs.length - 1 := by omega
    simp (maxSteps := 4000000) (disch := omega) only [Zq, evO, vbox, wr, Zeq, if_true, if_false, Nat.reduceEqDiff, Nat.reduceAdd, Nat.reduceLeDiff, Nat.reduceSub, and_self, and_true, true_and, reduceIte, reduceCtorEq, eq_self, implies_true, forall_const, false_implies, imp_self, decide_true, decide_false, fix_nil, fix_cons, g0, g1, t14, t15, t16, t5, g4, t6, t7, t8, g45, g5, lx]
    exact ⟨hin, k15, u5, rfl, by rw [hall]; exact o5⟩
  have hw : IntKind.i64.wrap (((k + 1 : Nat) : Int) - 1) = (k : Int) := by rw [wrap64 (by omega) (by omega)]; omega
  have ixp := fun H0 : Heap => slc_idx (r := rCall) (H1 := H0) (sz := 3) (i := k) (k := .i64) rfl hx (by omega)
  have ixq := fun H0 : Heap => slc_idx (r := rCall) (H1 := H0) (sz := 3) (i := k + 1) (k := .i64) rfl hx hkn
  have fxp := fun (H0 : Heap) (o off : Nat) => slc_fad (r := rCall) (H1 := H0) (sz := 3) (i := k) (o := o) (off := off) rfl hx (by omega)
  have fxq := fun (H0 : Heap) (o off : Nat) => slc_fad (r := rCall) (H1 := H0) (sz := 3) (i := k + 1) (o := o) (off := off) rfl hx hkn
  have e2 := call_el (i := k) (hxk H5 k05) (by omega)
  have e3 := call_el (i := k + 1) (hxk H5 k05) hkn
  obtain ⟨u6, H6, e6, o6, k6, n6, ap6, bk6⟩ := NewF.one2 (bytes := 32) (y := legF i cs k) runC_len (by omega) o5 (by rw [List.length_append, legsU_len]; omega)
  simp only [runC, legF] at e6
  simp (maxSteps := 4000000) (disch := omega) only [Zq, evO, vbox, wr, Zeq, if_true, if_false, Nat.reduceEqDiff, Nat.reduceAdd, Nat.reduceLeDiff, Nat.reduceSub, and_self, and_true, true_and, reduceIte, reduceCtorEq, eq_self, implies_true, forall_const, false_implies, imp_self, decide_true, decide_false, fix_nil, fix_cons, g0, g1, t14, t15, t16, t5, g4, t6, t7, t8, g45, g5, lx]
  refine G_tame rfl ?_
  simp (maxSteps := 4000000) (disch := omega) only [Zq, evO, vbox, wr, Zeq, if_true, if_false, Nat.reduceEqDiff, Nat.reduceAdd, Nat.reduceLeDiff, Nat.reduceSub, and_self, and_true, true_and, reduceIte, reduceCtorEq, eq_self, implies_true, forall_const, false_implies, imp_self, decide_true, decide_false, fix_nil, fix_cons, g0, g1, t14, t15, t16, t5, g4, t6, t7, t8, g45, g5, hw, ixp, ixq, fxp, fxq, e2, e3, e6]
  refine ⟨by omega, k6 _ (Nat.le_refl _) k15, by omega, (ap6 _ (by omega) (fun h => hb5 h.symm)).trans g5, u6, rfl, by rw [legsU_succ, ← List.append_assoc]; exact o6, ?_⟩
  rcases bk6 with h | h
  · rw [h]; exact hb5
  · omega
end
end Go.Proofs.Ytjjglonmaajjoaa.AX
