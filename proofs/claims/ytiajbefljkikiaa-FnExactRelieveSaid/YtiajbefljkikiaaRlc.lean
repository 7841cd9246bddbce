/- How long a duty drives, how long it is stretched. No condition beyond each law's own; of the program: the functions' forms. -/
import Derived.Test.YtiajbefljkikiaaRlb
import Derived.Test.YtiajbefljkikiaaRlp
namespace Go.Proofs.Ytiajbefljkikiaa.AX
open Go
set_option maxRecDepth 10000
set_option maxHeartbeats 4000000
set_option linter.unusedSimpArgs false
set_option linter.unusedVariables false
/-- A duty that is right. -/
structure Vd (ts : List Tk) (ds : List Int) : Prop where
  t : tksB ts = true
  p : plB ts.length ds = true
  n : 0 < ds.length
  l : ds.length ≤ 12
theorem l17D_iff {ts : List Tk} {ds : List Int} : l17D ts ds = true ↔ Vd ts ds := by
  constructor
  · intro h
    simp only [l17D, l17B, Bool.and_eq_true, decide_eq_true_eq] at h
    exact ⟨h.1.1, h.1.2.2, h.2, h.1.2.1⟩
  · intro h
    simp only [l17D, l17B, Bool.and_eq_true, decide_eq_true_eq]
    exact ⟨⟨h.t, h.l, h.p⟩, h.n⟩
def tI (ts : List Tk) (ds : List Int) (i : Nat) : Tk := tkA ts (ds.getD i 0)
section
variable {H : Heap} {v w : Value} {ts : List Tk} {ds : List Int} {i : Nat}
theorem pl_in (hp : plB ts.length ds = true) (hi : i < ds.length) : 0 ≤ ds.getD i 0 ∧ ds.getD i 0 < ts.length := by
  have := inR_iff.1 (plB_iff.1 hp i hi).1
  omega
theorem tk_rng (ht : tksB ts = true) {x : Int} (h0 : 0 ≤ x) (h1 : x < ts.length) : inR 0 100000 (tkA ts x).2.2.1 = true ∧ inR 0 100000 (tkA ts x).2.2.2.1 = true ∧ (tkA ts x).2.2.1 < (tkA ts x).2.2.2.1 := by
  obtain ⟨m, rfl⟩ := Int.eq_ofNat_of_zero_le h0
  have hm : m < ts.length := by omega
  have et : tkA ts (m : Int) = ts[m] := by rw [tkA, Int.toNat_natCast, List.getD_eq_getElem?_getD, List.getElem?_eq_getElem hm, Option.getD_some]
  rw [et]
  simp only [tksB, Bool.and_eq_true] at ht
  have := List.all_eq_true.1 ht.2 _ (List.getElem_mem hm)
  simp only [tkB, Bool.and_eq_true, decide_eq_true_eq] at this
  exact ⟨this.2.2.1, this.2.2.2.1, this.2.2.2.2.1⟩
theorem Vd.rng (V : Vd ts ds) (hi : i < ds.length) : inR 0 100000 (tI ts ds i).2.2.1 = true ∧ inR 0 100000 (tI ts ds i).2.2.2.1 = true ∧ (tI ts ds i).2.2.1 < (tI ts ds i).2.2.2.1 :=
  tk_rng V.t (pl_in V.p hi).1 (pl_in V.p hi).2
theorem Vd.el (V : Vd ts ds) (h : (rSlc rTask).rd H [v] ts) (hi : i < ds.length) : ∃ m : Nat, (∀ H0 : Heap, vidx H0 5 v (.int .i64 (ds.getD i 0)) = some (adr v m 5 0, H0)) ∧
    vldN H 5 (adr v m 5 0) = some (.agg #[.int .i64 (tI ts ds i).1, .int .i64 (tI ts ds i).2.1, .int .i64 (tI ts ds i).2.2.1, .int .i64 (tI ts ds i).2.2.2.1, .int .i64 (tI ts ds i).2.2.2.2], H) ∧
    vld1 H (adr v m 5 2) = some (.int .i64 (tI ts ds i).2.2.1, H) ∧ vld1 H (adr v m 5 3) = some (.int .i64 (tI ts ds i).2.2.2.1, H) ∧ (∀ (H0 : Heap) (o : Nat), vfad H0 o (adr v m 5 0) = some (adr v m 5 o, H0)) ∧ ∀ ix o, trL ix (adr v m 5 o) = [.L ix (blk v)] :=
  tk_at h (pl_in V.p hi).1 (pl_in V.p hi).2
def lstI (ts : List Tk) (ds : List Int) (i : Nat) : Int := if i < ds.length then (tI ts ds i).2.2.2.1 - (tI ts ds i).2.2.1 else 0
def drvI (ts : List Tk) (ds : List Int) : Nat → Int
  | 0 => 0
  | i + 1 => drvI ts ds i + lstI ts ds i
theorem lstI_bd (V : Vd ts ds) (i : Nat) : 0 ≤ lstI ts ds i ∧ lstI ts ds i ≤ 100000 := by
  unfold lstI
  split
  · rename_i hi
    obtain ⟨h1, h2, h3⟩ := V.rng hi
    have h1 := inR_iff.1 h1
    have h2 := inR_iff.1 h2
    omega
  · omega
theorem drvI_bd (V : Vd ts ds) : ∀ i : Nat, 0 ≤ drvI ts ds i ∧ drvI ts ds i ≤ 100000 * i
  | 0 => ⟨Int.le_refl _, Int.le_refl _⟩
  | i + 1 => by
    have h1 := drvI_bd V i
    have h2 := lstI_bd V i
    rw [drvI]
    omega
theorem sI_bd (V : Vd ts ds) (g : Nat → Bool) : ∀ i : Nat, 0 ≤ sI g (lstI ts ds) i ∧ sI g (lstI ts ds) i ≤ 100000 * i
  | 0 => ⟨Int.le_refl _, Int.le_refl _⟩
  | i + 1 => by
    have h1 := sI_bd V g i
    have h2 := lstI_bd V i
    rw [sI]
    split <;> omega
theorem r_impl_driven (V : Vd ts ds) (h : (rSlc rTask).rd H [v] ts) (hd : Ints H w ds) : Run Try.prog 113 [v, w] H fun r H' => Keep H H' ∧ r = .int .i64 (drvI ts ds ds.length) := by
  have lw := fun H1 : Heap => IntsK.len_ (H1 := H1) hd
  have hl := V.l
  refine Run.intro c113 rfl ?_
  simp (maxSteps := 4000000) (disch := omega) only [Zq, evO, vbox, wr, Zeq, if_true, if_false, Nat.reduceEqDiff, Nat.reduceAdd, Nat.reduceLeDiff, Nat.reduceSub, and_self, and_true, true_and, reduceIte, reduceCtorEq, eq_self, implies_true, forall_const, false_implies, imp_self, decide_true, decide_false, x113, lw]
  refine G_forF [0, 8, 9] (ds.length) (fun i T H1 => T 10 = .int .i64 (i : Int) ∧ T 5 = .int .i64 (drvI ts ds i) ∧ Keep H H1) 0 (Nat.zero_le _) ?_ ?_
  · simp (maxSteps := 4000000) (disch := omega) only [Zq, evO, vbox, wr, Zeq, if_true, if_false, Nat.reduceEqDiff, Nat.reduceAdd, Nat.reduceLeDiff, Nat.reduceSub, and_self, and_true, true_and, reduceIte, reduceCtorEq, eq_self, implies_true, forall_const, false_implies, imp_self, decide_true, decide_false, fix_nil, fix_cons]
    exact ⟨rfl, Keep.refl _⟩
  rintro i T H1 hi hT ⟨t10, t5, k1⟩
  simp only [fix_nil, fix_cons, Zq, evO, vbox, wr, Zeq, if_true, if_false, Nat.reduceEqDiff, Nat.reduceAdd, Nat.reduceLeDiff, Nat.reduceSub, and_self, and_true, true_and, reduceIte, reduceCtorEq, eq_self, implies_true, forall_const, false_implies, imp_self, decide_true, decide_false] at hT
  obtain ⟨t0, t8, t9⟩ := hT
  by_cases hin : i < ds.length
  · have hd1 := IntsK.keep hd k1
    obtain ⟨m, q1, q2, _⟩ := V.el ((rSlc rTask).rdk h k1) hin
    obtain ⟨r1, r2, r3⟩ := V.rng hin
    simp (maxSteps := 4000000) (disch := omega) only [Zq, evO, vbox, wr, Zeq, if_true, if_false, Nat.reduceEqDiff, Nat.reduceAdd, Nat.reduceLeDiff, Nat.reduceSub, and_self, and_true, true_and, reduceIte, reduceCtorEq, eq_self, implies_true, forall_const, false_implies, imp_self, decide_true, decide_false, fix_nil, fix_cons, t0, t8, t9, t10, t5, lw, hd1.idx hin, hd1.ld hin, q1, q2]
    refine GO_call ((r_impl_lasts (tI ts ds i).1 (tI ts ds i).2.1 (tI ts ds i).2.2.1 (tI ts ds i).2.2.2.1 (tI ts ds i).2.2.2.2 _ r1 r2).mono ?_)
    rintro _ H2 ⟨k2, rfl⟩
    have n2 := k2.nxt
    have e : (tI ts ds i).2.2.2.1 - (tI ts ds i).2.2.1 = lstI ts ds i := by rw [lstI, if_pos hin]
    have b1 := drvI_bd V i
    have b2 := lstI_bd V i
    have hw : IntKind.i64.wrap (drvI ts ds i + lstI ts ds i) = drvI ts ds i + lstI ts ds i := wrap64 (by omega) (by omega)
    simp (maxSteps := 4000000) (disch := omega) only [Zq, evO, vbox, wr, Zeq, if_true, if_false, Nat.reduceEqDiff, Nat.reduceAdd, Nat.reduceLeDiff, Nat.reduceSub, and_self, and_true, true_and, reduceIte, reduceCtorEq, eq_self, implies_true, forall_const, false_implies, imp_self, decide_true, decide_false, fix_nil, fix_cons, t0, t8, t9, t10, t5, e, hw]
    exact ⟨hin, rfl, k1.trans k2⟩
  · obtain rfl : i = ds.length := by omega
    simp (maxSteps := 4000000) (disch := omega) only [Zq, evO, vbox, wr, Zeq, if_true, if_false, Nat.reduceEqDiff, Nat.reduceAdd, Nat.reduceLeDiff, Nat.reduceSub, and_self, and_true, true_and, reduceIte, reduceCtorEq, eq_self, implies_true, forall_const, false_implies, imp_self, decide_true, decide_false, fix_nil, fix_cons, t0, t8, t9, t10, t5, lw]
    exact k1
def sprI (ts : List Tk) (ds : List Int) : Int := (tI ts ds (ds.length - 1)).2.2.2.1 - (tI ts ds 0).2.2.1
theorem r_impl_spread (V : Vd ts ds) (h : (rSlc rTask).rd H [v] ts) (hd : Ints H w ds) : Run Try.prog 112 [v, w] H fun r H' => Keep H H' ∧ r = .int .i64 (sprI ts ds) := by
  have lw := fun H1 : Heap => IntsK.len_ (H1 := H1) hd
  have hl := V.l
  have hn := V.n
  have hw1 : IntKind.i64.wrap ((ds.length : Int) - 1) = ((ds.length - 1 : Nat) : Int) := by rw [wrap64 (by omega) (by omega)]; omega
  obtain ⟨m, q1, q2, q3, q4, q5, _⟩ := V.el h (by omega : ds.length - 1 < ds.length)
  obtain ⟨n, p1, p2, p3, p4, p5, _⟩ := V.el h (by omega : 0 < ds.length)
  obtain ⟨r1, r2, r3⟩ := V.rng (by omega : ds.length - 1 < ds.length)
  obtain ⟨s1, s2, s3⟩ := V.rng (by omega : 0 < ds.length)
  have r2 := inR_iff.1 r2
  have s1 := inR_iff.1 s1
  have hw2 : IntKind.i64.wrap ((tI ts ds (ds.length - 1)).2.2.2.1 - (tI ts ds 0).2.2.1) = sprI ts ds := wrap64 (by omega) (by omega)
  have ix0 : ∀ H0 : Heap, vidx H0 1 w (.int .i64 0) = some (adr w 0 1 0, H0) := fun H0 => IntsK.idx (k' := .i64) (H1 := H0) (i := 0) hd (by omega)
  have ix1 := fun H0 : Heap => IntsK.idx (k' := .i64) (H1 := H0) (i := ds.length - 1) hd (by omega)
  refine Run.intro c112 rfl ?_
  simp (maxSteps := 4000000) (disch := omega) only [Zq, evO, vbox, wr, Zeq, if_true, if_false, Nat.reduceEqDiff, Nat.reduceAdd, Nat.reduceLeDiff, Nat.reduceSub, and_self, and_true, true_and, reduceIte, reduceCtorEq, eq_self, implies_true, forall_const, false_implies, imp_self, decide_true, decide_false, x112]
  refine G_calm rfl ?_
  simp (maxSteps := 4000000) (disch := omega) only [Zq, evO, vbox, wr, Zeq, if_true, if_false, Nat.reduceEqDiff, Nat.reduceAdd, Nat.reduceLeDiff, Nat.reduceSub, and_self, and_true, true_and, reduceIte, reduceCtorEq, eq_self, implies_true, forall_const, false_implies, imp_self, decide_true, decide_false, fix_nil, fix_cons, lw, hw1, ix0, ix1, hd.ld (by omega : 0 < ds.length), hd.ld (by omega : ds.length - 1 < ds.length), q1, q5, q4, p1, p5, p3, hw2]
  exact Keep.refl _
theorem r_spec_Driven (V : Vd ts ds) (h : (rSlc rTask).rd H [v] ts) (hd : Ints H w ds) (htl : ts.length ≤ 1048576) : Run Try.prog 109 [v, w] H fun r H' => Keep H H' ∧ r = .int .i64 (drvI ts ds ds.length) := by
  have lw := fun H1 : Heap => IntsK.len_ (H1 := H1) hd
  have hl := V.l
  refine Run.intro c109 rfl ?_
  simp (maxSteps := 4000000) (disch := omega) only [Zq, evO, vbox, wr, Zeq, if_true, if_false, Nat.reduceEqDiff, Nat.reduceAdd, Nat.reduceLeDiff, Nat.reduceSub, and_self, and_true, true_and, reduceIte, reduceCtorEq, eq_self, implies_true, forall_const, false_implies, imp_self, decide_true, decide_false, x109]
  refine GO_call ((r_spec_l17Duty h hd htl (by omega)).mono ?_)
  rintro _ H0 ⟨k0, rfl⟩
  have n0 := k0.nxt
  simp (maxSteps := 4000000) (disch := omega) only [Zq, evO, vbox, wr, Zeq, if_true, if_false, Nat.reduceEqDiff, Nat.reduceAdd, Nat.reduceLeDiff, Nat.reduceSub, and_self, and_true, true_and, reduceIte, reduceCtorEq, eq_self, implies_true, forall_const, false_implies, imp_self, decide_true, decide_false, fix_nil, fix_cons, l17D_iff.2 V]
  refine G_forF [0, 1] (ds.length) (fun i T H1 => T 6 = .int .i64 (i : Int) ∧ T 5 = .int .i64 (drvI ts ds i) ∧ Keep H H1) 0 (Nat.zero_le _) ?_ ?_
  · simp (maxSteps := 4000000) (disch := omega) only [Zq, evO, vbox, wr, Zeq, if_true, if_false, Nat.reduceEqDiff, Nat.reduceAdd, Nat.reduceLeDiff, Nat.reduceSub, and_self, and_true, true_and, reduceIte, reduceCtorEq, eq_self, implies_true, forall_const, false_implies, imp_self, decide_true, decide_false, fix_nil, fix_cons]
    exact ⟨rfl, k0⟩
  rintro i T H1 hi hT ⟨t6, t5, k1⟩
  simp only [fix_nil, fix_cons, Zq, evO, vbox, wr, Zeq, if_true, if_false, Nat.reduceEqDiff, Nat.reduceAdd, Nat.reduceLeDiff, Nat.reduceSub, and_self, and_true, true_and, reduceIte, reduceCtorEq, eq_self, implies_true, forall_const, false_implies, imp_self, decide_true, decide_false] at hT
  obtain ⟨t0, t1⟩ := hT
  by_cases hin : i < ds.length
  · have hd1 := IntsK.keep hd k1
    obtain ⟨m, q1, q2, q3, q4, q5, _⟩ := V.el ((rSlc rTask).rdk h k1) hin
    obtain ⟨r1, r2, r3⟩ := V.rng hin
    have r1 := inR_iff.1 r1
    have r2 := inR_iff.1 r2
    have b1 := drvI_bd V i
    have b2 := lstI_bd V i
    have hw0 : IntKind.i64.wrap (drvI ts ds i + (tI ts ds i).2.2.2.1) = drvI ts ds i + (tI ts ds i).2.2.2.1 := wrap64 (by omega) (by omega)
    have hw : IntKind.i64.wrap (drvI ts ds i + (tI ts ds i).2.2.2.1 - (tI ts ds i).2.2.1) = drvI ts ds (i + 1) := by
      rw [wrap64 (by omega) (by omega), drvI, lstI, if_pos hin]; omega
    simp (maxSteps := 4000000) (disch := omega) only [Zq, evO, vbox, wr, Zeq, if_true, if_false, Nat.reduceEqDiff, Nat.reduceAdd, Nat.reduceLeDiff, Nat.reduceSub, and_self, and_true, true_and, reduceIte, reduceCtorEq, eq_self, implies_true, forall_const, false_implies, imp_self, decide_true, decide_false, fix_nil, fix_cons, t0, t1, t6, t5, lw]
    refine G_calm rfl ?_
    simp (maxSteps := 4000000) (disch := omega) only [Zq, evO, vbox, wr, Zeq, if_true, if_false, Nat.reduceEqDiff, Nat.reduceAdd, Nat.reduceLeDiff, Nat.reduceSub, and_self, and_true, true_and, reduceIte, reduceCtorEq, eq_self, implies_true, forall_const, false_implies, imp_self, decide_true, decide_false, fix_nil, fix_cons, t0, t1, t6, t5, hd1.idx hin, hd1.ld hin, q1, q5, q3, q4, hw0, hw]
    exact ⟨hin, k1⟩
  · obtain rfl : i = ds.length := by omega
    simp (maxSteps := 4000000) (disch := omega) only [Zq, evO, vbox, wr, Zeq, if_true, if_false, Nat.reduceEqDiff, Nat.reduceAdd, Nat.reduceLeDiff, Nat.reduceSub, and_self, and_true, true_and, reduceIte, reduceCtorEq, eq_self, implies_true, forall_const, false_implies, imp_self, decide_true, decide_false, fix_nil, fix_cons, t0, t1, t6, t5, lw]
    exact k1
theorem vmm_mx {H : Heap} {k : IntKind} {a b : Int} : vmm H true (.int k a) (.int k b) = some (.int k (if a < b then b else a), H) := by
  rw [vmm, if_pos rfl, if_pos rfl]
def gapI (ts : List Tk) (ds : List Int) (rest : Int) (i : Nat) : Bool := decide (0 < i ∧ rest ≤ (tI ts ds i).2.2.1 - (tI ts ds (i - 1)).2.2.2.1)
theorem r_impl_stretched (V : Vd ts ds) (h : (rSlc rTask).rd H [v] ts) (hd : Ints H w ds) (rest : Int) : Run Try.prog 114 [v, w, .int .i64 rest] H fun r H' => Keep H H' ∧ r = .int .i64 (mI (gapI ts ds rest) (lstI ts ds) ds.length) := by
  have lw := fun H1 : Heap => IntsK.len_ (H1 := H1) hd
  have hl := V.l
  refine Run.intro c114 rfl ?_
  simp (maxSteps := 4000000) (disch := omega) only [Zq, evO, vbox, wr, Zeq, if_true, if_false, Nat.reduceEqDiff, Nat.reduceAdd, Nat.reduceLeDiff, Nat.reduceSub, and_self, and_true, true_and, reduceIte, reduceCtorEq, eq_self, implies_true, forall_const, false_implies, imp_self, decide_true, decide_false, x114, lw]
  refine G_forF [0, 1, 2, 11, 12] (ds.length) (fun i T H1 => T 13 = .int .i64 (i : Int) ∧ T 7 = .int .i64 (mI (gapI ts ds rest) (lstI ts ds) i) ∧ T 8 = .int .i64 (sI (gapI ts ds rest) (lstI ts ds) i) ∧ Keep H H1) 0 (Nat.zero_le _) ?_ ?_
  · simp (maxSteps := 4000000) (disch := omega) only [Zq, evO, vbox, wr, Zeq, if_true, if_false, Nat.reduceEqDiff, Nat.reduceAdd, Nat.reduceLeDiff, Nat.reduceSub, and_self, and_true, true_and, reduceIte, reduceCtorEq, eq_self, implies_true, forall_const, false_implies, imp_self, decide_true, decide_false, fix_nil, fix_cons]
    exact ⟨rfl, rfl, Keep.refl _⟩
  rintro i T H1 hi hT ⟨t13, t7, t8, k1⟩
  simp only [fix_nil, fix_cons, Zq, evO, vbox, wr, Zeq, if_true, if_false, Nat.reduceEqDiff, Nat.reduceAdd, Nat.reduceLeDiff, Nat.reduceSub, and_self, and_true, true_and, reduceIte, reduceCtorEq, eq_self, implies_true, forall_const, false_implies, imp_self, decide_true, decide_false] at hT
  obtain ⟨t0, t1, t2, t11, t12⟩ := hT
  by_cases hin : i < ds.length
  rotate_left
  · obtain rfl : i = ds.length := by omega
    simp (maxSteps := 4000000) (disch := omega) only [Zq, evO, vbox, wr, Zeq, if_true, if_false, Nat.reduceEqDiff, Nat.reduceAdd, Nat.reduceLeDiff, Nat.reduceSub, and_self, and_true, true_and, reduceIte, reduceCtorEq, eq_self, implies_true, forall_const, false_implies, imp_self, decide_true, decide_false, fix_nil, fix_cons, t0, t1, t2, t11, t12, t13, t7, t8, lw]
    exact k1
  have hd1 := IntsK.keep hd k1
  obtain ⟨m, q1, q2, q3, q4, q5, _⟩ := V.el ((rSlc rTask).rdk h k1) hin
  obtain ⟨r1, r2, r3⟩ := V.rng hin
  have r1' := inR_iff.1 r1
  have r2' := inR_iff.1 r2
  have e : (tI ts ds i).2.2.2.1 - (tI ts ds i).2.2.1 = lstI ts ds i := by rw [lstI, if_pos hin]
  have b1 := sI_bd V (gapI ts ds rest) i
  have b2 := lstI_bd V i
  by_cases hi0 : 0 < i
  · obtain ⟨n, p1, p2, p3, p4, p5, _⟩ := V.el ((rSlc rTask).rdk h k1) (by omega : i - 1 < ds.length)
    obtain ⟨s1, s2, s3⟩ := V.rng (by omega : i - 1 < ds.length)
    have s1 := inR_iff.1 s1
    have s2 := inR_iff.1 s2
    have hwi : IntKind.i64.wrap ((i : Int) - 1) = ((i - 1 : Nat) : Int) := by rw [wrap64 (by omega) (by omega)]; omega
    have hwg : IntKind.i64.wrap ((tI ts ds i).2.2.1 - (tI ts ds (i - 1)).2.2.2.1) = (tI ts ds i).2.2.1 - (tI ts ds (i - 1)).2.2.2.1 := wrap64 (by omega) (by omega)
    simp (maxSteps := 4000000) (disch := omega) only [Zq, evO, vbox, wr, Zeq, if_true, if_false, Nat.reduceEqDiff, Nat.reduceAdd, Nat.reduceLeDiff, Nat.reduceSub, and_self, and_true, true_and, reduceIte, reduceCtorEq, eq_self, implies_true, forall_const, false_implies, imp_self, decide_true, decide_false, fix_nil, fix_cons, t0, t1, t2, t11, t12, t13, t7, t8, lw, hd1.idx hin, hd1.ld hin]
    refine G_calm rfl ?_
    by_cases hg : rest ≤ (tI ts ds i).2.2.1 - (tI ts ds (i - 1)).2.2.2.1
    · have hgb : gapI ts ds rest i = true := decide_eq_true ⟨hi0, hg⟩
      simp (maxSteps := 4000000) (disch := omega) only [Zq, evO, vbox, wr, Zeq, if_true, if_false, Nat.reduceEqDiff, Nat.reduceAdd, Nat.reduceLeDiff, Nat.reduceSub, and_self, and_true, true_and, reduceIte, reduceCtorEq, eq_self, implies_true, forall_const, false_implies, imp_self, decide_true, decide_false, fix_nil, fix_cons, t0, t1, t2, t11, t12, t13, t7, t8, Zfh (by omega : (0 : Int) < i), hd1.idx hin, hd1.ld hin, hd1.idx (by omega : i - 1 < ds.length), hd1.ld (by omega : i - 1 < ds.length), q1, q2, q5, q3, p1, p5, p4, hwi, hwg, Zfj hg]
      refine GO_call ((r_impl_lasts (tI ts ds i).1 (tI ts ds i).2.1 (tI ts ds i).2.2.1 (tI ts ds i).2.2.2.1 (tI ts ds i).2.2.2.2 _ r1 r2).mono ?_)
      rintro _ H2 ⟨k2, rfl⟩
      have n2 := k2.nxt
      have hs : sI (gapI ts ds rest) (lstI ts ds) (i + 1) = 0 + lstI ts ds i := by rw [sI, if_pos hgb]
      have hw : IntKind.i64.wrap (0 + lstI ts ds i) = sI (gapI ts ds rest) (lstI ts ds) (i + 1) := by rw [hs]; exact wrap64 (by omega) (by omega)
      simp (maxSteps := 4000000) (disch := omega) only [Zq, evO, vbox, wr, Zeq, if_true, if_false, Nat.reduceEqDiff, Nat.reduceAdd, Nat.reduceLeDiff, Nat.reduceSub, and_self, and_true, true_and, reduceIte, reduceCtorEq, eq_self, implies_true, forall_const, false_implies, imp_self, decide_true, decide_false, fix_nil, fix_cons, t0, t1, t2, t11, t12, t13, t7, t8, e, hw, vmm_mx]
      exact ⟨hin, rfl, k1.trans k2⟩
    · have hgb : ¬ gapI ts ds rest i = true := by rw [gapI, decide_eq_true_iff]; exact fun hh => hg hh.2
      simp (maxSteps := 4000000) (disch := omega) only [Zq, evO, vbox, wr, Zeq, if_true, if_false, Nat.reduceEqDiff, Nat.reduceAdd, Nat.reduceLeDiff, Nat.reduceSub, and_self, and_true, true_and, reduceIte, reduceCtorEq, eq_self, implies_true, forall_const, false_implies, imp_self, decide_true, decide_false, fix_nil, fix_cons, t0, t1, t2, t11, t12, t13, t7, t8, Zfh (by omega : (0 : Int) < i), hd1.idx hin, hd1.ld hin, hd1.idx (by omega : i - 1 < ds.length), hd1.ld (by omega : i - 1 < ds.length), q1, q2, q5, q3, p1, p5, p4, hwi, hwg, Zfk hg]
      refine GO_call ((r_impl_lasts (tI ts ds i).1 (tI ts ds i).2.1 (tI ts ds i).2.2.1 (tI ts ds i).2.2.2.1 (tI ts ds i).2.2.2.2 _ r1 r2).mono ?_)
      rintro _ H2 ⟨k2, rfl⟩
      have n2 := k2.nxt
      have hs : sI (gapI ts ds rest) (lstI ts ds) (i + 1) = sI (gapI ts ds rest) (lstI ts ds) i + lstI ts ds i := by rw [sI, if_neg hgb]
      have hw : IntKind.i64.wrap (sI (gapI ts ds rest) (lstI ts ds) i + lstI ts ds i) = sI (gapI ts ds rest) (lstI ts ds) (i + 1) := by rw [hs]; exact wrap64 (by omega) (by omega)
      simp (maxSteps := 4000000) (disch := omega) only [Zq, evO, vbox, wr, Zeq, if_true, if_false, Nat.reduceEqDiff, Nat.reduceAdd, Nat.reduceLeDiff, Nat.reduceSub, and_self, and_true, true_and, reduceIte, reduceCtorEq, eq_self, implies_true, forall_const, false_implies, imp_self, decide_true, decide_false, fix_nil, fix_cons, t0, t1, t2, t11, t12, t13, t7, t8, e, hw, vmm_mx]
      exact ⟨hin, rfl, k1.trans k2⟩
  · have hgb : ¬ gapI ts ds rest i = true := by rw [gapI, decide_eq_true_iff]; exact fun hh => hi0 hh.1
    simp (maxSteps := 4000000) (disch := omega) only [Zq, evO, vbox, wr, Zeq, if_true, if_false, Nat.reduceEqDiff, Nat.reduceAdd, Nat.reduceLeDiff, Nat.reduceSub, and_self, and_true, true_and, reduceIte, reduceCtorEq, eq_self, implies_true, forall_const, false_implies, imp_self, decide_true, decide_false, fix_nil, fix_cons, t0, t1, t2, t11, t12, t13, t7, t8, lw, hd1.idx hin, hd1.ld hin]
    refine G_calm rfl ?_
    simp (maxSteps := 4000000) (disch := omega) only [Zq, evO, vbox, wr, Zeq, if_true, if_false, Nat.reduceEqDiff, Nat.reduceAdd, Nat.reduceLeDiff, Nat.reduceSub, and_self, and_true, true_and, reduceIte, reduceCtorEq, eq_self, implies_true, forall_const, false_implies, imp_self, decide_true, decide_false, fix_nil, fix_cons, t0, t1, t2, t11, t12, t13, t7, t8, Zfi (by omega : ¬ (0 : Int) < i), q1, q2]
    refine GO_call ((r_impl_lasts (tI ts ds i).1 (tI ts ds i).2.1 (tI ts ds i).2.2.1 (tI ts ds i).2.2.2.1 (tI ts ds i).2.2.2.2 _ r1 r2).mono ?_)
    rintro _ H2 ⟨k2, rfl⟩
    have n2 := k2.nxt
    have hs : sI (gapI ts ds rest) (lstI ts ds) (i + 1) = sI (gapI ts ds rest) (lstI ts ds) i + lstI ts ds i := by rw [sI, if_neg hgb]
    have hw : IntKind.i64.wrap (sI (gapI ts ds rest) (lstI ts ds) i + lstI ts ds i) = sI (gapI ts ds rest) (lstI ts ds) (i + 1) := by rw [hs]; exact wrap64 (by omega) (by omega)
    simp (maxSteps := 4000000) (disch := omega) only [Zq, evO, vbox, wr, Zeq, if_true, if_false, Nat.reduceEqDiff, Nat.reduceAdd, Nat.reduceLeDiff, Nat.reduceSub, and_self, and_true, true_and, reduceIte, reduceCtorEq, eq_self, implies_true, forall_const, false_implies, imp_self, decide_true, decide_false, fix_nil, fix_cons, t0, t1, t2, t11, t12, t13, t7, t8, e, hw, vmm_mx]
    exact ⟨hin, rfl, k1.trans k2⟩
theorem r_spec_Stretched (V : Vd ts ds) (h : (rSlc rTask).rd H [v] ts) (hd : Ints H w ds) (htl : ts.length ≤ 1048576) {rest : Int} (hr : inR 1 1440 rest = true) : Run Try.prog 110 [v, w, .int .i64 rest] H fun r H' => Keep H H' ∧ r = .int .i64 (mI (gapI ts ds rest) (lstI ts ds) ds.length) := by
  have lw := fun H1 : Heap => IntsK.len_ (H1 := H1) hd
  have hl := V.l
  refine Run.intro c110 rfl ?_
  simp (maxSteps := 4000000) (disch := omega) only [Zq, evO, vbox, wr, Zeq, if_true, if_false, Nat.reduceEqDiff, Nat.reduceAdd, Nat.reduceLeDiff, Nat.reduceSub, and_self, and_true, true_and, reduceIte, reduceCtorEq, eq_self, implies_true, forall_const, false_implies, imp_self, decide_true, decide_false, x110]
  refine GO_call ((r_spec_l17Duty h hd htl (by omega)).mono ?_)
  rintro _ H0 ⟨k0, rfl⟩
  have n0 := k0.nxt
  simp (maxSteps := 4000000) (disch := omega) only [Zq, evO, vbox, wr, Zeq, if_true, if_false, Nat.reduceEqDiff, Nat.reduceAdd, Nat.reduceLeDiff, Nat.reduceSub, and_self, and_true, true_and, reduceIte, reduceCtorEq, eq_self, implies_true, forall_const, false_implies, imp_self, decide_true, decide_false, fix_nil, fix_cons, l17D_iff.2 V]
  refine GO_call ((r_spec_l01In rest 1 1440 _).mono ?_)
  rintro _ H1 ⟨k1, rfl⟩
  have n1 := k1.nxt
  simp (maxSteps := 4000000) (disch := omega) only [Zq, evO, vbox, wr, Zeq, if_true, if_false, Nat.reduceEqDiff, Nat.reduceAdd, Nat.reduceLeDiff, Nat.reduceSub, and_self, and_true, true_and, reduceIte, reduceCtorEq, eq_self, implies_true, forall_const, false_implies, imp_self, decide_true, decide_false, fix_nil, fix_cons, hr]
  refine G_forF [0, 1, 2] (ds.length) (fun i T H2 => T 8 = .int .i64 (i : Int) ∧ Keep H H2 ∧ ∃ M : Int, T 7 = .int .i64 M ∧ Out (gapI ts ds rest) (lstI ts ds) ds.length i M) 0 (Nat.zero_le _) ?_ ?_
  · simp (maxSteps := 4000000) (disch := omega) only [Zq, evO, vbox, wr, Zeq, if_true, if_false, Nat.reduceEqDiff, Nat.reduceAdd, Nat.reduceLeDiff, Nat.reduceSub, and_self, and_true, true_and, reduceIte, reduceCtorEq, eq_self, implies_true, forall_const, false_implies, imp_self, decide_true, decide_false, fix_nil, fix_cons]
    exact ⟨k0.trans k1, 0, rfl, Out.zero _⟩
  rintro i T H2 hi hT ⟨t8, k2, M, t7, hO⟩
  simp only [fix_nil, fix_cons, Zq, evO, vbox, wr, Zeq, if_true, if_false, Nat.reduceEqDiff, Nat.reduceAdd, Nat.reduceLeDiff, Nat.reduceSub, and_self, and_true, true_and, reduceIte, reduceCtorEq, eq_self, implies_true, forall_const, false_implies, imp_self, decide_true, decide_false] at hT
  obtain ⟨t0, t1, t2⟩ := hT
  by_cases hin : i < ds.length
  rotate_left
  · obtain rfl : i = ds.length := by omega
    simp (maxSteps := 4000000) (disch := omega) only [Zq, evO, vbox, wr, Zeq, if_true, if_false, Nat.reduceEqDiff, Nat.reduceAdd, Nat.reduceLeDiff, Nat.reduceSub, and_self, and_true, true_and, reduceIte, reduceCtorEq, eq_self, implies_true, forall_const, false_implies, imp_self, decide_true, decide_false, fix_nil, fix_cons, t0, t1, t2, t8, t7, lw]
    exact ⟨k2, by rw [hO.fin]⟩
  simp (maxSteps := 4000000) (disch := omega) only [Zq, evO, vbox, wr, Zeq, if_true, if_false, Nat.reduceEqDiff, Nat.reduceAdd, Nat.reduceLeDiff, Nat.reduceSub, and_self, and_true, true_and, reduceIte, reduceCtorEq, eq_self, implies_true, forall_const, false_implies, imp_self, decide_true, decide_false, fix_nil, fix_cons, t0, t1, t2, t8, t7, lw]
  refine G_loopF [0, 1, 2, 8] ((ds.length - i)) (fun c T H3 => T 10 = .int .i64 ((ds.length - c : Nat) : Int) ∧ c ≤ ds.length - i ∧ Keep H2 H3 ∧ ∃ s M : Int, T 9 = .int .i64 s ∧ T 7 = .int .i64 M ∧ Wnd (gapI ts ds rest) (lstI ts ds) ds.length i (ds.length - c) s M) ?_ ?_
  · simp (maxSteps := 4000000) (disch := omega) only [Zq, evO, vbox, wr, Zeq, if_true, if_false, Nat.reduceEqDiff, Nat.reduceAdd, Nat.reduceLeDiff, Nat.reduceSub, and_self, and_true, true_and, reduceIte, reduceCtorEq, eq_self, implies_true, forall_const, false_implies, imp_self, decide_true, decide_false, fix_nil, fix_cons, t0, t1, t2, t8, t7]
    have e : ds.length - (ds.length - i) = i := by omega
    exact ⟨by rw [e], Keep.refl _, 0, M, rfl, rfl, by rw [e]; exact hO.wnd⟩
  rintro c T H3 hT ⟨t10, hc, k3, s, M3, t9, t7, hW⟩
  simp only [fix_nil, fix_cons, Zq, evO, vbox, wr, Zeq, if_true, if_false, Nat.reduceEqDiff, Nat.reduceAdd, Nat.reduceLeDiff, Nat.reduceSub, and_self, and_true, true_and, reduceIte, reduceCtorEq, eq_self, implies_true, forall_const, false_implies, imp_self, decide_true, decide_false, t0, t1, t2, t8, t7] at hT
  obtain ⟨t0, t1, t2, t8⟩ := hT
  have k23 := k2.trans k3
  by_cases hc0 : 0 < c
  rotate_left
  · obtain rfl : c = 0 := by omega
    rw [Nat.sub_zero] at hW
    simp (maxSteps := 4000000) (disch := omega) only [Zq, evO, vbox, wr, Zeq, if_true, if_false, Nat.reduceEqDiff, Nat.reduceAdd, Nat.reduceLeDiff, Nat.reduceSub, and_self, and_true, true_and, reduceIte, reduceCtorEq, eq_self, implies_true, forall_const, false_implies, imp_self, decide_true, decide_false, fix_nil, fix_cons, t0, t1, t2, t8, t7, t10, t9, lw, Zfi (by omega : ¬ ((ds.length - 0 : Nat) : Int) < ds.length)]
    exact ⟨hin, k23, M3, rfl, hW.out hin (.inl rfl)⟩
  obtain ⟨k, hk⟩ : ∃ k, k = ds.length - c := ⟨_, rfl⟩
  rw [← hk] at t10 hW
  have hkn : k < ds.length := by omega
  have hki : i ≤ k := by omega
  have hd3 := IntsK.keep hd k23
  obtain ⟨m, q1, q2, q3, q4, q5, _⟩ := V.el ((rSlc rTask).rdk h k23) hkn
  obtain ⟨r1, r2, r3⟩ := V.rng hkn
  have r1 := inR_iff.1 r1
  have r2 := inR_iff.1 r2
  have b1 := sI_bd V (gapI ts ds rest) k
  have b2 := lstI_bd V k
  have bs : 0 ≤ s ∧ s ≤ 1200000 := by
    refine ⟨hW.sn, ?_⟩
    by_cases e : k = i
    · have := hW.s0 e; omega
    · have := hW.sle (by omega); omega
  have hw0 : IntKind.i64.wrap (s + (tI ts ds k).2.2.2.1) = s + (tI ts ds k).2.2.2.1 := wrap64 (by omega) (by omega)
  have hw : IntKind.i64.wrap (s + (tI ts ds k).2.2.2.1 - (tI ts ds k).2.2.1) = s + lstI ts ds k := by
    rw [wrap64 (by omega) (by omega), lstI, if_pos hkn]; omega
  have hwk : IntKind.i64.wrap ((k : Int) + 1) = ((ds.length - (c - 1) : Nat) : Int) := by rw [wrap64 (by omega) (by omega)]; omega
  have ek : ds.length - (c - 1) = k + 1 := by omega
  simp (maxSteps := 4000000) (disch := omega) only [Zq, evO, vbox, wr, Zeq, if_true, if_false, Nat.reduceEqDiff, Nat.reduceAdd, Nat.reduceLeDiff, Nat.reduceSub, and_self, and_true, true_and, reduceIte, reduceCtorEq, eq_self, implies_true, forall_const, false_implies, imp_self, decide_true, decide_false, fix_nil, fix_cons, t0, t1, t2, t8, t7, t10, t9, lw, Zfh (by omega : (k : Int) < ds.length)]
  refine G_calm rfl ?_
  by_cases hik : i < k
  · obtain ⟨n, p1, p2, p3, p4, p5, _⟩ := V.el ((rSlc rTask).rdk h k23) (by omega : k - 1 < ds.length)
    obtain ⟨s1, s2, s3⟩ := V.rng (by omega : k - 1 < ds.length)
    have s1 := inR_iff.1 s1
    have s2 := inR_iff.1 s2
    have hwi : IntKind.i64.wrap ((k : Int) - 1) = ((k - 1 : Nat) : Int) := by rw [wrap64 (by omega) (by omega)]; omega
    have hwg : IntKind.i64.wrap ((tI ts ds k).2.2.1 - (tI ts ds (k - 1)).2.2.2.1) = (tI ts ds k).2.2.1 - (tI ts ds (k - 1)).2.2.2.1 := wrap64 (by omega) (by omega)
    by_cases hg : rest ≤ (tI ts ds k).2.2.1 - (tI ts ds (k - 1)).2.2.2.1
    · have hgb : gapI ts ds rest k = true := decide_eq_true ⟨by omega, hg⟩
      simp (maxSteps := 4000000) (disch := omega) only [Zq, evO, vbox, wr, Zeq, if_true, if_false, Nat.reduceEqDiff, Nat.reduceAdd, Nat.reduceLeDiff, Nat.reduceSub, and_self, and_true, true_and, reduceIte, reduceCtorEq, eq_self, implies_true, forall_const, false_implies, imp_self, decide_true, decide_false, fix_nil, fix_cons, t0, t1, t2, t8, t7, t10, t9, Zfh (by omega : (i : Int) < k), hd3.idx hkn, hd3.ld hkn, hd3.idx (by omega : k - 1 < ds.length), hd3.ld (by omega : k - 1 < ds.length), q1, q5, q3, p1, p5, p4, hwi, hwg, Zfj hg]
      exact ⟨hin, k23, M3, rfl, hW.out hin (.inr ⟨hik, hgb⟩)⟩
    · have hgb : gapI ts ds rest k = false := decide_eq_false fun hh => hg hh.2
      simp (maxSteps := 4000000) (disch := omega) only [Zq, evO, vbox, wr, Zeq, if_true, if_false, Nat.reduceEqDiff, Nat.reduceAdd, Nat.reduceLeDiff, Nat.reduceSub, and_self, and_true, true_and, reduceIte, reduceCtorEq, eq_self, implies_true, forall_const, false_implies, imp_self, decide_true, decide_false, fix_nil, fix_cons, t0, t1, t2, t8, t7, t10, t9, Zfh (by omega : (i : Int) < k), hd3.idx hkn, hd3.ld hkn, hd3.idx (by omega : k - 1 < ds.length), hd3.ld (by omega : k - 1 < ds.length), q1, q5, q3, p1, p5, p4, hwi, hwg, Zfk hg]
      refine G_calm rfl ?_
      have hst := hW.step (fun j => (lstI_bd V j).1) hkn (fun _ => hgb)
      by_cases hM : M3 < s + lstI ts ds k
      · rw [if_pos hM] at hst
        simp (maxSteps := 4000000) (disch := omega) only [Zq, evO, vbox, wr, Zeq, if_true, if_false, Nat.reduceEqDiff, Nat.reduceAdd, Nat.reduceLeDiff, Nat.reduceSub, and_self, and_true, true_and, reduceIte, reduceCtorEq, eq_self, implies_true, forall_const, false_implies, imp_self, decide_true, decide_false, fix_nil, fix_cons, t0, t1, t2, t8, t7, t10, t9, hd3.idx hkn, hd3.ld hkn, q1, q5, q3, q4, hw0, hw, Zfh hM, hwk]
        exact ⟨c - 1, by omega, rfl, by omega, k3, _, _, rfl, rfl, by rw [ek]; exact hst⟩
      · rw [if_neg hM] at hst
        simp (maxSteps := 4000000) (disch := omega) only [Zq, evO, vbox, wr, Zeq, if_true, if_false, Nat.reduceEqDiff, Nat.reduceAdd, Nat.reduceLeDiff, Nat.reduceSub, and_self, and_true, true_and, reduceIte, reduceCtorEq, eq_self, implies_true, forall_const, false_implies, imp_self, decide_true, decide_false, fix_nil, fix_cons, t0, t1, t2, t8, t7, t10, t9, hd3.idx hkn, hd3.ld hkn, q1, q5, q3, q4, hw0, hw, Zfi hM, hwk]
        exact ⟨c - 1, by omega, rfl, by omega, k3, _, _, rfl, rfl, by rw [ek]; exact hst⟩
  · have hst := hW.step (fun j => (lstI_bd V j).1) hkn (fun hh => absurd hh hik)
    simp (maxSteps := 4000000) (disch := omega) only [Zq, evO, vbox, wr, Zeq, if_true, if_false, Nat.reduceEqDiff, Nat.reduceAdd, Nat.reduceLeDiff, Nat.reduceSub, and_self, and_true, true_and, reduceIte, reduceCtorEq, eq_self, implies_true, forall_const, false_implies, imp_self, decide_true, decide_false, fix_nil, fix_cons, t0, t1, t2, t8, t7, t10, t9, Zfi (by omega : ¬ (i : Int) < k)]
    refine G_calm rfl ?_
    by_cases hM : M3 < s + lstI ts ds k
    · rw [if_pos hM] at hst
      simp (maxSteps := 4000000) (disch := omega) only [Zq, evO, vbox, wr, Zeq, if_true, if_false, Nat.reduceEqDiff, Nat.reduceAdd, Nat.reduceLeDiff, Nat.reduceSub, and_self, and_true, true_and, reduceIte, reduceCtorEq, eq_self, implies_true, forall_const, false_implies, imp_self, decide_true, decide_false, fix_nil, fix_cons, t0, t1, t2, t8, t7, t10, t9, hd3.idx hkn, hd3.ld hkn, q1, q5, q3, q4, hw0, hw, Zfh hM, hwk]
      exact ⟨c - 1, by omega, rfl, by omega, k3, _, _, rfl, rfl, by rw [ek]; exact hst⟩
    · rw [if_neg hM] at hst
      simp (maxSteps := 4000000) (disch := omega) only [Zq, evO, vbox, wr, Zeq, if_true, if_false, Nat.reduceEqDiff, Nat.reduceAdd, Nat.reduceLeDiff, Nat.reduceSub, and_self, and_true, true_and, reduceIte, reduceCtorEq, eq_self, implies_true, forall_const, false_implies, imp_self, decide_true, decide_false, fix_nil, fix_cons, t0, t1, t2, t8, t7, t10, t9, hd3.idx hkn, hd3.ld hkn, q1, q5, q3, q4, hw0, hw, Zfi hM, hwk]
      exact ⟨c - 1, by omega, rfl, by omega, k3, _, _, rfl, rfl, by rw [ek]; exact hst⟩
end
end Go.Proofs.Ytiajbefljkikiaa.AX
