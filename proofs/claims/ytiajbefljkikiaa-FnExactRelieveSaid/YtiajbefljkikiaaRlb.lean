/- Places of tasks; how long a duty drives. No condition beyond each law's own; of the program: the functions' forms. -/
import Derived.Test.YtiajbefljkikiaaRla
import Derived.Test.YtiajbefljkikiaaAXzf
namespace Go.Proofs.Ytiajbefljkikiaa.AX
open Go
set_option maxRecDepth 10000
set_option maxHeartbeats 4000000
set_option linter.unusedSimpArgs false
set_option linter.unusedVariables false
def plB (n : Int) (ds : List Int) : Bool := decide (∀ i, i < ds.length → (inR 0 (n - 1) (ds.getD i 0) = true ∧ (ds.take i).contains (ds.getD i 0) = false))
theorem plB_iff {n : Int} {ds : List Int} : plB n ds = true ↔ ∀ i, i < ds.length → (inR 0 (n - 1) (ds.getD i 0) = true ∧ (ds.take i).contains (ds.getD i 0) = false) := decide_eq_true_iff
theorem plB_no {n : Int} {ds : List Int} {i : Nat} (hi : i < ds.length) (h : inR 0 (n - 1) (ds.getD i 0) = true → (ds.take i).contains (ds.getD i 0) = true) : plB n ds = false := by
  rw [← Bool.not_eq_true, plB_iff]
  intro ha
  have := ha i hi
  rw [h this.1] at this
  cases this.2
section
variable {H : Heap} {v w : Value} {ts : List Tk} {ds : List Int}
theorem r_impl_placesOk (h : (rSlc rTask).rd H [v] ts) (hd : Ints H w ds) (hl : ts.length ≤ 1048576) (hl2 : ds.length ≤ 1048576) : Run Try.prog 94 [v, w] H fun r H' => Keep H H' ∧ r = .bool (plB ts.length ds) := by
  have lv : ∀ H : Heap, vlen H v = some (.int .i64 ts.length, H) := fun _ => slc_len h
  have lw := fun H1 : Heap => IntsK.len_ (H1 := H1) hd
  have hwn : IntKind.i64.wrap ((ts.length : Int) - 1) = (ts.length : Int) - 1 := wrap64 (by omega) (by omega)
  refine Run.intro c94 rfl ?_
  simp (maxSteps := 4000000) (disch := omega) only [Zq, evO, vbox, wr, Zeq, if_true, if_false, Nat.reduceEqDiff, Nat.reduceAdd, Nat.reduceLeDiff, Nat.reduceSub, and_self, and_true, true_and, reduceIte, reduceCtorEq, eq_self, implies_true, forall_const, false_implies, imp_self, decide_true, decide_false, x94, lw]
  refine G_forF [0, 1, 7, 8] (ds.length) (fun i T H1 => T 9 = .int .i64 (i : Int) ∧ Keep H H1 ∧ ∀ j, j < i → (inR 0 ((ts.length : Int) - 1) (ds.getD j 0) = true ∧ (ds.take j).contains (ds.getD j 0) = false)) 0 (Nat.zero_le _) ?_ ?_
  · simp (maxSteps := 4000000) (disch := omega) only [Zq, evO, vbox, wr, Zeq, if_true, if_false, Nat.reduceEqDiff, Nat.reduceAdd, Nat.reduceLeDiff, Nat.reduceSub, and_self, and_true, true_and, reduceIte, reduceCtorEq, eq_self, implies_true, forall_const, false_implies, imp_self, decide_true, decide_false, fix_nil, fix_cons]
    exact ⟨Keep.refl _, fun j hj => by omega⟩
  rintro i T H1 hi hT ⟨t9, k1, ha⟩
  simp only [fix_nil, fix_cons, Zq, evO, vbox, wr, Zeq, if_true, if_false, Nat.reduceEqDiff, Nat.reduceAdd, Nat.reduceLeDiff, Nat.reduceSub, and_self, and_true, true_and, reduceIte, reduceCtorEq, eq_self, implies_true, forall_const, false_implies, imp_self, decide_true, decide_false] at hT
  obtain ⟨t0, t1, t7, t8⟩ := hT
  by_cases hin : i < ds.length
  · have hd1 := IntsK.keep hd k1
    have sub := fun H0 : Heap => Sl.slc_hi (H1 := H0) (k := .i64) (b := i) hd (by omega)
    simp (maxSteps := 4000000) (disch := omega) only [Zq, evO, vbox, wr, Zeq, if_true, if_false, Nat.reduceEqDiff, Nat.reduceAdd, Nat.reduceLeDiff, Nat.reduceSub, and_self, and_true, true_and, reduceIte, reduceCtorEq, eq_self, implies_true, forall_const, false_implies, imp_self, decide_true, decide_false, fix_nil, fix_cons, t0, t1, t7, t8, t9, lv, lw, hd1.idx hin, hd1.ld hin, hwn]
    refine GO_call ((r_impl_between (ds.getD i 0) 0 ((ts.length : Int) - 1) _).mono ?_)
    rintro _ H2 ⟨k2, rfl⟩
    have n2 := k2.nxt
    cases hb : inR 0 ((ts.length : Int) - 1) (ds.getD i 0) with
    | false =>
      simp (maxSteps := 4000000) (disch := omega) only [Zq, evO, vbox, wr, Zeq, if_true, if_false, Nat.reduceEqDiff, Nat.reduceAdd, Nat.reduceLeDiff, Nat.reduceSub, and_self, and_true, true_and, reduceIte, reduceCtorEq, eq_self, implies_true, forall_const, false_implies, imp_self, decide_true, decide_false, fix_nil, fix_cons, t0, t1, t7, t8, t9]
      exact ⟨k1.trans k2, by rw [plB_no hin (fun e => by rw [hb] at e; cases e)]⟩
    | true =>
      have hs := IntsK.sub (IntsK.keep hd1 k2) (a := 0) (b := i) (by omega) (by omega)
      rw [List.drop_zero, Nat.sub_zero] at hs
      simp (maxSteps := 4000000) (disch := omega) only [Zq, evO, vbox, wr, Zeq, if_true, if_false, Nat.reduceEqDiff, Nat.reduceAdd, Nat.reduceLeDiff, Nat.reduceSub, and_self, and_true, true_and, reduceIte, reduceCtorEq, eq_self, implies_true, forall_const, false_implies, imp_self, decide_true, decide_false, fix_nil, fix_cons, t0, t1, t7, t8, t9, sub]
      refine GO_call ((r_impl_has hs (by rw [List.length_take]; omega)).mono ?_)
      rintro _ H3 ⟨k3, rfl⟩
      have n3 := k3.nxt
      have k13 := k1.trans (k2.trans k3)
      cases hc : (ds.take i).contains (ds.getD i 0) with
      | true =>
        simp (maxSteps := 4000000) (disch := omega) only [Zq, evO, vbox, wr, Zeq, if_true, if_false, Nat.reduceEqDiff, Nat.reduceAdd, Nat.reduceLeDiff, Nat.reduceSub, and_self, and_true, true_and, reduceIte, reduceCtorEq, eq_self, implies_true, forall_const, false_implies, imp_self, decide_true, decide_false, fix_nil, fix_cons, t0, t1, t7, t8, t9, hc]
        exact ⟨k13, by rw [plB_no hin (fun _ => hc)]⟩
      | false =>
        simp (maxSteps := 4000000) (disch := omega) only [Zq, evO, vbox, wr, Zeq, if_true, if_false, Nat.reduceEqDiff, Nat.reduceAdd, Nat.reduceLeDiff, Nat.reduceSub, and_self, and_true, true_and, reduceIte, reduceCtorEq, eq_self, implies_true, forall_const, false_implies, imp_self, decide_true, decide_false, fix_nil, fix_cons, t0, t1, t7, t8, t9, hc]
        exact ⟨hin, k13, fun j hj => by
          by_cases e : j = i
          · subst e; exact ⟨hb, hc⟩
          · exact ha j (by omega)⟩
  · obtain rfl : i = ds.length := by omega
    simp (maxSteps := 4000000) (disch := omega) only [Zq, evO, vbox, wr, Zeq, if_true, if_false, Nat.reduceEqDiff, Nat.reduceAdd, Nat.reduceLeDiff, Nat.reduceSub, and_self, and_true, true_and, reduceIte, reduceCtorEq, eq_self, implies_true, forall_const, false_implies, imp_self, decide_true, decide_false, fix_nil, fix_cons, t0, t1, t7, t8, t9, lw]
    exact ⟨k1, by rw [plB_iff.2 ha]⟩
def l17B (ts : List Tk) (ds : List Int) (m : Nat) : Bool := tksB ts && (decide (ds.length ≤ m) && plB ts.length ds)
theorem r_spec_l17Places {m : Nat} (h : (rSlc rTask).rd H [v] ts) (hd : Ints H w ds) (hl : ts.length ≤ 1048576) (hl2 : ds.length ≤ 1048576) (hm : m ≤ 1048576) : Run Try.prog 89 [v, w, .int .i64 (m : Int)] H fun r H' => Keep H H' ∧ r = .bool (l17B ts ds m) := by
  have lv : ∀ H : Heap, vlen H v = some (.int .i64 ts.length, H) := fun _ => slc_len h
  have lw := fun H1 : Heap => IntsK.len_ (H1 := H1) hd
  have hwn : IntKind.i64.wrap ((ts.length : Int) - 1) = (ts.length : Int) - 1 := wrap64 (by omega) (by omega)
  refine Run.intro c89 rfl ?_
  simp (maxSteps := 4000000) (disch := omega) only [Zq, evO, vbox, wr, Zeq, if_true, if_false, Nat.reduceEqDiff, Nat.reduceAdd, Nat.reduceLeDiff, Nat.reduceSub, and_self, and_true, true_and, reduceIte, reduceCtorEq, eq_self, implies_true, forall_const, false_implies, imp_self, decide_true, decide_false, x89]
  refine GO_call ((r_spec_TasksOk h hl).mono ?_)
  rintro _ H0 ⟨k0, rfl⟩
  have n0 := k0.nxt
  cases ht : tksB ts with
  | false =>
    simp (maxSteps := 4000000) (disch := omega) only [Zq, evO, vbox, wr, Zeq, if_true, if_false, Nat.reduceEqDiff, Nat.reduceAdd, Nat.reduceLeDiff, Nat.reduceSub, and_self, and_true, true_and, reduceIte, reduceCtorEq, eq_self, implies_true, forall_const, false_implies, imp_self, decide_true, decide_false, fix_nil, fix_cons]
    exact ⟨k0, by simp [l17B, ht]⟩
  | true =>
  by_cases hdm : (m : Int) < ds.length
  · simp (maxSteps := 4000000) (disch := omega) only [Zq, evO, vbox, wr, Zeq, if_true, if_false, Nat.reduceEqDiff, Nat.reduceAdd, Nat.reduceLeDiff, Nat.reduceSub, and_self, and_true, true_and, reduceIte, reduceCtorEq, eq_self, implies_true, forall_const, false_implies, imp_self, decide_true, decide_false, fix_nil, fix_cons, lw, Zfh hdm]
    exact ⟨k0, by simp [l17B]; intro; omega⟩
  have hdm' : ds.length ≤ m := by omega
  simp (maxSteps := 4000000) (disch := omega) only [Zq, evO, vbox, wr, Zeq, if_true, if_false, Nat.reduceEqDiff, Nat.reduceAdd, Nat.reduceLeDiff, Nat.reduceSub, and_self, and_true, true_and, reduceIte, reduceCtorEq, eq_self, implies_true, forall_const, false_implies, imp_self, decide_true, decide_false, fix_nil, fix_cons, lw, Zfi hdm]
  refine G_forF [0, 1] (ds.length) (fun i T H1 => T 7 = .int .i64 (i : Int) ∧ Keep H H1 ∧ ∀ j, j < i → (inR 0 ((ts.length : Int) - 1) (ds.getD j 0) = true ∧ (ds.take j).contains (ds.getD j 0) = false)) 0 (Nat.zero_le _) ?_ ?_
  · simp (maxSteps := 4000000) (disch := omega) only [Zq, evO, vbox, wr, Zeq, if_true, if_false, Nat.reduceEqDiff, Nat.reduceAdd, Nat.reduceLeDiff, Nat.reduceSub, and_self, and_true, true_and, reduceIte, reduceCtorEq, eq_self, implies_true, forall_const, false_implies, imp_self, decide_true, decide_false, fix_nil, fix_cons]
    exact ⟨k0, fun j hj => by omega⟩
  rintro i T H1 hi hT ⟨t7, k1, ha⟩
  simp only [fix_nil, fix_cons, Zq, evO, vbox, wr, Zeq, if_true, if_false, Nat.reduceEqDiff, Nat.reduceAdd, Nat.reduceLeDiff, Nat.reduceSub, and_self, and_true, true_and, reduceIte, reduceCtorEq, eq_self, implies_true, forall_const, false_implies, imp_self, decide_true, decide_false] at hT
  obtain ⟨t0, t1⟩ := hT
  by_cases hin : i < ds.length
  · have hd1 := IntsK.keep hd k1
    have sub := fun H0 : Heap => Sl.slc_hi (H1 := H0) (k := .i64) (b := i) hd (by omega)
    simp (maxSteps := 4000000) (disch := omega) only [Zq, evO, vbox, wr, Zeq, if_true, if_false, Nat.reduceEqDiff, Nat.reduceAdd, Nat.reduceLeDiff, Nat.reduceSub, and_self, and_true, true_and, reduceIte, reduceCtorEq, eq_self, implies_true, forall_const, false_implies, imp_self, decide_true, decide_false, fix_nil, fix_cons, t0, t1, t7, lw]
    refine G_tame rfl ?_
    simp (maxSteps := 4000000) (disch := omega) only [Zq, evO, vbox, wr, Zeq, if_true, if_false, Nat.reduceEqDiff, Nat.reduceAdd, Nat.reduceLeDiff, Nat.reduceSub, and_self, and_true, true_and, reduceIte, reduceCtorEq, eq_self, implies_true, forall_const, false_implies, imp_self, decide_true, decide_false, fix_nil, fix_cons, t0, t1, t7, lv, lw, hd1.idx hin, hd1.ld hin, hwn]
    refine GO_call ((r_spec_l01In (ds.getD i 0) 0 ((ts.length : Int) - 1) _).mono ?_)
    rintro _ H2 ⟨k2, rfl⟩
    have n2 := k2.nxt
    cases hb : inR 0 ((ts.length : Int) - 1) (ds.getD i 0) with
    | false =>
      simp (maxSteps := 4000000) (disch := omega) only [Zq, evO, vbox, wr, Zeq, if_true, if_false, Nat.reduceEqDiff, Nat.reduceAdd, Nat.reduceLeDiff, Nat.reduceSub, and_self, and_true, true_and, reduceIte, reduceCtorEq, eq_self, implies_true, forall_const, false_implies, imp_self, decide_true, decide_false, fix_nil, fix_cons, t0, t1, t7]
      exact ⟨k1.trans k2, by simp [l17B, plB_no hin (fun e => by rw [hb] at e; cases e)]⟩
    | true =>
      have hd2 := IntsK.keep hd1 k2
      have hs := IntsK.sub hd2 (a := 0) (b := i) (by omega) (by omega)
      rw [List.drop_zero, Nat.sub_zero] at hs
      simp (maxSteps := 4000000) (disch := omega) only [Zq, evO, vbox, wr, Zeq, if_true, if_false, Nat.reduceEqDiff, Nat.reduceAdd, Nat.reduceLeDiff, Nat.reduceSub, and_self, and_true, true_and, reduceIte, reduceCtorEq, eq_self, implies_true, forall_const, false_implies, imp_self, decide_true, decide_false, fix_nil, fix_cons, t0, t1, t7, sub, hd2.idx hin, hd2.ld hin]
      refine GO_call ((r_spec_l01Has hs (by rw [List.length_take]; omega)).mono ?_)
      rintro _ H3 ⟨k3, rfl⟩
      have n3 := k3.nxt
      have k13 := k1.trans (k2.trans k3)
      cases hc : (ds.take i).contains (ds.getD i 0) with
      | true =>
        simp (maxSteps := 4000000) (disch := omega) only [Zq, evO, vbox, wr, Zeq, if_true, if_false, Nat.reduceEqDiff, Nat.reduceAdd, Nat.reduceLeDiff, Nat.reduceSub, and_self, and_true, true_and, reduceIte, reduceCtorEq, eq_self, implies_true, forall_const, false_implies, imp_self, decide_true, decide_false, fix_nil, fix_cons, t0, t1, t7, hc]
        exact ⟨k13, by simp [l17B, plB_no hin (fun _ => hc)]⟩
      | false =>
        simp (maxSteps := 4000000) (disch := omega) only [Zq, evO, vbox, wr, Zeq, if_true, if_false, Nat.reduceEqDiff, Nat.reduceAdd, Nat.reduceLeDiff, Nat.reduceSub, and_self, and_true, true_and, reduceIte, reduceCtorEq, eq_self, implies_true, forall_const, false_implies, imp_self, decide_true, decide_false, fix_nil, fix_cons, t0, t1, t7, hc]
        exact ⟨hin, k13, fun j hj => by
          by_cases e : j = i
          · subst e; exact ⟨hb, hc⟩
          · exact ha j (by omega)⟩
  · obtain rfl : i = ds.length := by omega
    simp (maxSteps := 4000000) (disch := omega) only [Zq, evO, vbox, wr, Zeq, if_true, if_false, Nat.reduceEqDiff, Nat.reduceAdd, Nat.reduceLeDiff, Nat.reduceSub, and_self, and_true, true_and, reduceIte, reduceCtorEq, eq_self, implies_true, forall_const, false_implies, imp_self, decide_true, decide_false, fix_nil, fix_cons, t0, t1, t7, lw]
    exact ⟨k1, by simp [l17B, ht, plB_iff.2 ha, hdm']⟩
def l17D (ts : List Tk) (ds : List Int) : Bool := l17B ts ds 12 && decide (0 < ds.length)
theorem r_spec_l17Duty (h : (rSlc rTask).rd H [v] ts) (hd : Ints H w ds) (hl : ts.length ≤ 1048576) (hl2 : ds.length ≤ 1048576) : Run Try.prog 108 [v, w] H fun r H' => Keep H H' ∧ r = .bool (l17D ts ds) := by
  have lw := fun H1 : Heap => IntsK.len_ (H1 := H1) hd
  refine Run.intro c108 rfl ?_
  simp (maxSteps := 4000000) (disch := omega) only [Zq, evO, vbox, wr, Zeq, if_true, if_false, Nat.reduceEqDiff, Nat.reduceAdd, Nat.reduceLeDiff, Nat.reduceSub, and_self, and_true, true_and, reduceIte, reduceCtorEq, eq_self, implies_true, forall_const, false_implies, imp_self, decide_true, decide_false, x108]
  refine GO_call ((r_spec_l17Places (m := 12) h hd hl hl2 (by omega)).mono ?_)
  rintro _ H1 ⟨k1, rfl⟩
  cases hb : l17B ts ds 12 with
  | false =>
    simp (maxSteps := 4000000) (disch := omega) only [Zq, evO, vbox, wr, Zeq, if_true, if_false, Nat.reduceEqDiff, Nat.reduceAdd, Nat.reduceLeDiff, Nat.reduceSub, and_self, and_true, true_and, reduceIte, reduceCtorEq, eq_self, implies_true, forall_const, false_implies, imp_self, decide_true, decide_false, fix_nil, fix_cons]
    exact ⟨k1, by simp [l17D, hb]⟩
  | true =>
    by_cases h0 : (0 : Int) < ds.length
    · simp (maxSteps := 4000000) (disch := omega) only [Zq, evO, vbox, wr, Zeq, if_true, if_false, Nat.reduceEqDiff, Nat.reduceAdd, Nat.reduceLeDiff, Nat.reduceSub, and_self, and_true, true_and, reduceIte, reduceCtorEq, eq_self, implies_true, forall_const, false_implies, imp_self, decide_true, decide_false, fix_nil, fix_cons, lw, Zfh h0]
      exact ⟨k1, by rw [l17D, hb, decide_eq_true (by omega : 0 < ds.length)]; rfl⟩
    · simp (maxSteps := 4000000) (disch := omega) only [Zq, evO, vbox, wr, Zeq, if_true, if_false, Nat.reduceEqDiff, Nat.reduceAdd, Nat.reduceLeDiff, Nat.reduceSub, and_self, and_true, true_and, reduceIte, reduceCtorEq, eq_self, implies_true, forall_const, false_implies, imp_self, decide_true, decide_false, fix_nil, fix_cons, lw, Zfi h0]
      exact ⟨k1, by rw [l17D, hb, decide_eq_false (by omega : ¬ 0 < ds.length)]; rfl⟩
/-- The task at a place. -/
def tkA (ts : List Tk) (k : Int) : Tk := ts.getD k.toNat (0, 0, 0, 0, 0)
theorem tk_at {x : Int} (h : (rSlc rTask).rd H [v] ts) (h0 : 0 ≤ x) (h1 : x < ts.length) : ∃ m : Nat, (∀ H0 : Heap, vidx H0 5 v (.int .i64 x) = some (adr v m 5 0, H0)) ∧
    vldN H 5 (adr v m 5 0) = some (.agg #[.int .i64 (tkA ts x).1, .int .i64 (tkA ts x).2.1, .int .i64 (tkA ts x).2.2.1, .int .i64 (tkA ts x).2.2.2.1, .int .i64 (tkA ts x).2.2.2.2], H) ∧
    vld1 H (adr v m 5 2) = some (.int .i64 (tkA ts x).2.2.1, H) ∧ vld1 H (adr v m 5 3) = some (.int .i64 (tkA ts x).2.2.2.1, H) ∧ (∀ (H0 : Heap) (o : Nat), vfad H0 o (adr v m 5 0) = some (adr v m 5 o, H0)) ∧ ∀ ix o, trL ix (adr v m 5 o) = [.L ix (blk v)] := by
  obtain ⟨m, rfl⟩ := Int.eq_ofNat_of_zero_le h0
  have hm : m < ts.length := by omega
  obtain ⟨e1, e2, e3⟩ := task_el h hm
  have et : tkA ts (m : Int) = ts[m] := by rw [tkA, Int.toNat_natCast, List.getD_eq_getElem?_getD, List.getElem?_eq_getElem hm, Option.getD_some]
  rw [et]
  refine ⟨m, fun H0 => slc_idx (r := rTask) (H1 := H0) (sz := 5) (i := m) (k := .i64) rfl h hm, e1, e2, e3, fun H0 o => ?_, fun ix o => slc_trL (r := rTask) (sz := 5) (i := m) (ix := ix) (o := o) rfl h hm⟩
  obtain ⟨_, rows, e, hs, _⟩ := h
  obtain rfl := List.singleton_inj.1 e
  have := Sl.fad (H1 := H0) (o := 0) (off := o) hs hm
  rw [Nat.zero_add] at this
  exact this
end
end Go.Proofs.Ytiajbefljkikiaa.AX
