/- The code of a duty. No condition beyond each law's own; of the program: the functions' forms. -/
import Derived.Test.YtiajbefljkikiaaRlc
namespace Go.Proofs.Ytiajbefljkikiaa.AX
open Go
set_option maxRecDepth 10000
set_option maxHeartbeats 4000000
set_option linter.unusedSimpArgs false
set_option linter.unusedVariables false
theorem two_new {H1 H2 : Heap} {Z A B : List Value} (h : (((H1.push Z).push Z).set H1.nxt A).set (H1.nxt + 1) B = H2) : Keep H1 H2 ∧ H2.get H1.nxt = some (.own A) ∧ H2.get (H1.nxt + 1) = some (.own B) ∧ H2.nxt = H1.nxt + 2 := by
  subst h
  refine ⟨⟨by rw [Zbh, Zbh, Zbg, Zbg]; omega, fun a ha => ?_⟩, ?_, ?_, by rw [Zbh, Zbh, Zbg, Zbg]⟩
  · rw [Zbi, if_neg (by omega), Zbi, if_neg (by omega), push_get', Zbg, if_neg (by omega), push_get', if_neg (by omega)]
  · rw [Zbi, if_neg (by omega), Zbi, if_pos rfl]
  · rw [Zbi, if_pos rfl]
def ordI (ts : List Tk) (ds : List Int) (i : Nat) : Bool := decide (0 < i) && (decide (¬ (tI ts ds (i - 1)).2.1 = (tI ts ds i).1) || decide ((tI ts ds i).2.2.1 < (tI ts ds (i - 1)).2.2.2.1))
def dcR (ts : List Tk) (ds : List Int) (r : Ru) : Int :=
  if (List.range ds.length).any (ordI ts ds) = true then 2 else if r.1 < sprI ts ds then 3 else if r.2.1 < drvI ts ds ds.length then 4 else if r.2.2.2 < mI (gapI ts ds r.2.2.1) (lstI ts ds) ds.length then 5 else 0
theorem dcR_ord {ts : List Tk} {ds : List Int} {r : Ru} {i : Nat} (hi : i < ds.length) (h : ordI ts ds i = true) : dcR ts ds r = 2 := by
  rw [dcR, if_pos (List.any_eq_true.2 ⟨i, List.mem_range.2 hi, h⟩)]
theorem dcR_no {ts : List Tk} {ds : List Int} {r : Ru} (h : ∀ j, j < ds.length → ordI ts ds j = false) : dcR ts ds r = if r.1 < sprI ts ds then 3 else if r.2.1 < drvI ts ds ds.length then 4 else if r.2.2.2 < mI (gapI ts ds r.2.2.1) (lstI ts ds) ds.length then 5 else 0 := by
  rw [dcR, if_neg (fun hh => ?_)]
  obtain ⟨j, h1, h2⟩ := List.any_eq_true.1 hh
  rw [h j (List.mem_range.1 h1)] at h2
  cases h2
section
variable {H : Heap} {v w : Value} {ts : List Tk} {ds : List Int}
theorem r_impl_dutyCode {r : Ru} (V : Vd ts ds) (h : (rSlc rTask).rd H [v] ts) (hd : Ints H w ds) : Run Try.prog 96 [v, w, .agg #[.int .i64 r.1, .int .i64 r.2.1, .int .i64 r.2.2.1, .int .i64 r.2.2.2]] H fun x H' => Keep H H' ∧ x = .int .i64 (dcR ts ds r) := by
  have lw := fun H1 : Heap => IntsK.len_ (H1 := H1) hd
  have hl := V.l
  have hn := V.n
  refine Run.intro c96 rfl ?_
  simp (maxSteps := 4000000) (disch := omega) only [Zq, evO, vbox, wr, Zeq, if_true, if_false, Nat.reduceEqDiff, Nat.reduceAdd, Nat.reduceLeDiff, Nat.reduceSub, and_self, and_true, true_and, reduceIte, reduceCtorEq, eq_self, implies_true, forall_const, false_implies, imp_self, decide_true, decide_false, x96]
  generalize hG0 : H.push [.int .i64 r.1, .int .i64 r.2.1, .int .i64 r.2.2.1, .int .i64 r.2.2.2] = H0
  have k0 : Keep H H0 := by rw [← hG0]; exact Keep.push _ _
  have g0 : H0.get H.nxt = some (.own [.int .i64 r.1, .int .i64 r.2.1, .int .i64 r.2.2.1, .int .i64 r.2.2.2]) := by rw [← hG0, push_get', if_pos rfl]
  have n0 : H0.nxt = H.nxt + 1 := by rw [← hG0, Zbg]
  refine G_loopF [0, 1, 5] ((ds.length - 1)) (fun c T H1 => T 7 = .int .i64 ((ds.length - c : Nat) : Int) ∧ c ≤ ds.length - 1 ∧ Keep H0 H1 ∧ ∀ j, j < ds.length - c → ordI ts ds j = false) ?_ ?_
  · simp (maxSteps := 4000000) (disch := omega) only [Zq, evO, vbox, wr, Zeq, if_true, if_false, Nat.reduceEqDiff, Nat.reduceAdd, Nat.reduceLeDiff, Nat.reduceSub, and_self, and_true, true_and, reduceIte, reduceCtorEq, eq_self, implies_true, forall_const, false_implies, imp_self, decide_true, decide_false, fix_nil, fix_cons, g0]
    have e : ds.length - (ds.length - 1) = 1 := by omega
    exact ⟨by rw [e]; rfl, Keep.refl _, fun j hj => by
      obtain rfl : j = 0 := by omega
      rfl⟩
  rintro c T H1 hT ⟨t7, hc, k1, ho⟩
  simp only [fix_nil, fix_cons, Zq, evO, vbox, wr, Zeq, if_true, if_false, Nat.reduceEqDiff, Nat.reduceAdd, Nat.reduceLeDiff, Nat.reduceSub, and_self, and_true, true_and, reduceIte, reduceCtorEq, eq_self, implies_true, forall_const, false_implies, imp_self, decide_true, decide_false] at hT
  obtain ⟨t0, t1, t5⟩ := hT
  have kH1 := k0.trans k1
  have n1 := k1.nxt
  have g1 := (k1.get H.nxt (by omega)).trans g0
  by_cases hc0 : 0 < c
  · obtain ⟨i, hi⟩ : ∃ i, i = ds.length - c := ⟨_, rfl⟩
    rw [← hi] at t7 ho
    have hin : i < ds.length := by omega
    have hi0 : 0 < i := by omega
    have hd1 := IntsK.keep hd kH1
    obtain ⟨m, q1, q2, q3, q4, q5, q6⟩ := V.el ((rSlc rTask).rdk h kH1) hin
    obtain ⟨n, p1, p2, p3, p4, p5, p6⟩ := V.el ((rSlc rTask).rdk h kH1) (by omega : i - 1 < ds.length)
    have hwi : IntKind.i64.wrap ((i : Int) - 1) = ((i - 1 : Nat) : Int) := by rw [wrap64 (by omega) (by omega)]; omega
    have hwk : IntKind.i64.wrap ((i : Int) + 1) = ((ds.length - (c - 1) : Nat) : Int) := by rw [wrap64 (by omega) (by omega)]; omega
    have ek : ds.length - (c - 1) = i + 1 := by omega
    have tx := fun (j ix : Nat) (hj : j < ds.length) => (Sl.trL (ix := ix) (o := 0) hd hj)
    have tx1 := fun ix : Nat => tx i ix hin
    have tx2 := fun ix : Nat => tx (i - 1) ix (by omega)
    have bw := Sl.blk_lt hd hin
    have bv : blk v < H.nxt := slc_blk h (by have := pl_in V.p hin; omega : (ds.getD i 0).toNat < ts.length)
    simp (maxSteps := 4000000) (disch := omega) only [Zq, evO, vbox, wr, Zeq, if_true, if_false, Nat.reduceEqDiff, Nat.reduceAdd, Nat.reduceLeDiff, Nat.reduceSub, and_self, and_true, true_and, reduceIte, reduceCtorEq, eq_self, implies_true, forall_const, false_implies, imp_self, decide_true, decide_false, fix_nil, fix_cons, g0, t0, t1, t5, t7, g1, lw, Zfh (by omega : (i : Int) < ds.length)]
    simp (maxSteps := 4000000) (disch := omega) only [ZD, Zio, Zip, pre_, beq_self_eq_true, Nat.reduceBEq, Zq, evO, vbox, wr, Zeq, if_true, if_false, Nat.reduceEqDiff, Nat.reduceAdd, Nat.reduceLeDiff, Nat.reduceSub, and_self, and_true, true_and, reduceIte, reduceCtorEq, eq_self, implies_true, forall_const, false_implies, imp_self, decide_true, decide_false, fix_nil, fix_cons, g0, t0, t1, t5, t7, g1, G_dreg, hwi, hd1.idx hin, hd1.ld hin, hd1.idx (by omega : i - 1 < ds.length), hd1.ld (by omega : i - 1 < ds.length), q1, q2, p1, p2, q6, p6, tx1, tx2]
    generalize hG2 : (((H1.push [Value.int .i64 0, .int .i64 0, .int .i64 0, .int .i64 0, .int .i64 0]).push [Value.int .i64 0, .int .i64 0, .int .i64 0, .int .i64 0, .int .i64 0]).set H1.nxt [.int .i64 (tI ts ds (i - 1)).1, .int .i64 (tI ts ds (i - 1)).2.1, .int .i64 (tI ts ds (i - 1)).2.2.1, .int .i64 (tI ts ds (i - 1)).2.2.2.1, .int .i64 (tI ts ds (i - 1)).2.2.2.2]).set (H1.nxt + 1) [.int .i64 (tI ts ds i).1, .int .i64 (tI ts ds i).2.1, .int .i64 (tI ts ds i).2.2.1, .int .i64 (tI ts ds i).2.2.2.1, .int .i64 (tI ts ds i).2.2.2.2] = H2
    obtain ⟨k2, g2, g2b, n2⟩ := two_new hG2
    clear hG2
    first | (refine And.intro (by repeat' (first | apply And.intro | omega)) ?_) | skip
    have kB2 := k1.trans k2
    by_cases c1 : (tI ts ds (i - 1)).2.1 = (tI ts ds i).1
    rotate_left
    · have hor : ordI ts ds i = true := by simp [ordI, hi0, c1]
      simp (maxSteps := 4000000) (disch := omega) only [Zq, evO, vbox, wr, Zeq, if_true, if_false, Nat.reduceEqDiff, Nat.reduceAdd, Nat.reduceLeDiff, Nat.reduceSub, and_self, and_true, true_and, reduceIte, reduceCtorEq, eq_self, implies_true, forall_const, false_implies, imp_self, decide_true, decide_false, fix_nil, fix_cons, g0, t0, t1, t5, t7, g1, g2, g2b, Zfm c1]
      exact ⟨kH1.trans k2, by rw [dcR_ord hin hor]⟩
    by_cases c2 : (tI ts ds i).2.2.1 < (tI ts ds (i - 1)).2.2.2.1
    · have hor : ordI ts ds i = true := by simp [ordI, hi0, c2]
      simp (maxSteps := 4000000) (disch := omega) only [Zq, evO, vbox, wr, Zeq, if_true, if_false, Nat.reduceEqDiff, Nat.reduceAdd, Nat.reduceLeDiff, Nat.reduceSub, and_self, and_true, true_and, reduceIte, reduceCtorEq, eq_self, implies_true, forall_const, false_implies, imp_self, decide_true, decide_false, fix_nil, fix_cons, g0, t0, t1, t5, t7, g1, g2, g2b, Zfl c1, Zfh c2]
      exact ⟨kH1.trans k2, by rw [dcR_ord hin hor]⟩
    · have hor : ordI ts ds i = false := by simp [ordI, c1]; intro; omega
      simp (maxSteps := 4000000) (disch := omega) only [Zq, evO, vbox, wr, Zeq, if_true, if_false, Nat.reduceEqDiff, Nat.reduceAdd, Nat.reduceLeDiff, Nat.reduceSub, and_self, and_true, true_and, reduceIte, reduceCtorEq, eq_self, implies_true, forall_const, false_implies, imp_self, decide_true, decide_false, fix_nil, fix_cons, g0, t0, t1, t5, t7, g1, g2, g2b, Zfl c1, Zfi c2, hwk]
      exact ⟨c - 1, by omega, rfl, by omega, kB2, fun j hj => by
        by_cases e : j = i
        · rw [e]; exact hor
        · exact ho j (by omega)⟩
  obtain rfl : c = 0 := by omega
  rw [Nat.sub_zero] at ho
  have hdc := dcR_no (r := r) ho
  have h1 := (rSlc rTask).rdk h kH1
  have hd1 := IntsK.keep hd kH1
  simp (maxSteps := 4000000) (disch := omega) only [Zq, evO, vbox, wr, Zeq, if_true, if_false, Nat.reduceEqDiff, Nat.reduceAdd, Nat.reduceLeDiff, Nat.reduceSub, and_self, and_true, true_and, reduceIte, reduceCtorEq, eq_self, implies_true, forall_const, false_implies, imp_self, decide_true, decide_false, fix_nil, fix_cons, g0, t0, t1, t5, t7, g1, lw, Zfi (by omega : ¬ ((ds.length - 0 : Nat) : Int) < ds.length)]
  simp (maxSteps := 4000000) (disch := omega) only [ZD, Zio, Zip, pre_, beq_self_eq_true, Nat.reduceBEq, Zq, evO, vbox, wr, Zeq, if_true, if_false, Nat.reduceEqDiff, Nat.reduceAdd, Nat.reduceLeDiff, Nat.reduceSub, and_self, and_true, true_and, reduceIte, reduceCtorEq, eq_self, implies_true, forall_const, false_implies, imp_self, decide_true, decide_false, fix_nil, fix_cons, g0, t0, t1, t5, t7, g1, G_dreg]
  refine GD_call ((r_impl_spread V h1 hd1).mono ?_)
  rintro _ H2 ⟨k2, rfl⟩
  have g2 := (k2.get H.nxt (by omega)).trans g1
  have k02 := kH1.trans k2
  by_cases s1 : r.1 < sprI ts ds
  · simp (maxSteps := 4000000) (disch := omega) only [ZD, Zio, Zip, pre_, beq_self_eq_true, Nat.reduceBEq, Zq, evO, vbox, wr, Zeq, if_true, if_false, Nat.reduceEqDiff, Nat.reduceAdd, Nat.reduceLeDiff, Nat.reduceSub, and_self, and_true, true_and, reduceIte, reduceCtorEq, eq_self, implies_true, forall_const, false_implies, imp_self, decide_true, decide_false, fix_nil, fix_cons, g0, t0, t1, t5, t7, g1, g2, Zfh s1]
    exact ⟨k02, by rw [hdc, if_pos s1]⟩
  simp (maxSteps := 4000000) (disch := omega) only [ZD, Zio, Zip, pre_, beq_self_eq_true, Nat.reduceBEq, Zq, evO, vbox, wr, Zeq, if_true, if_false, Nat.reduceEqDiff, Nat.reduceAdd, Nat.reduceLeDiff, Nat.reduceSub, and_self, and_true, true_and, reduceIte, reduceCtorEq, eq_self, implies_true, forall_const, false_implies, imp_self, decide_true, decide_false, fix_nil, fix_cons, g0, t0, t1, t5, t7, g1, g2, Zfi s1]
  simp (maxSteps := 4000000) (disch := omega) only [ZD, Zio, Zip, pre_, beq_self_eq_true, Nat.reduceBEq, Zq, evO, vbox, wr, Zeq, if_true, if_false, Nat.reduceEqDiff, Nat.reduceAdd, Nat.reduceLeDiff, Nat.reduceSub, and_self, and_true, true_and, reduceIte, reduceCtorEq, eq_self, implies_true, forall_const, false_implies, imp_self, decide_true, decide_false, fix_nil, fix_cons, g0, t0, t1, t5, t7, g1, g2, G_dreg]
  refine GD_call ((r_impl_driven V ((rSlc rTask).rdk h k02) (IntsK.keep hd k02)).mono ?_)
  rintro _ H3 ⟨k3, rfl⟩
  have n2 := k2.nxt
  have g3 := (k3.get H.nxt (by omega)).trans g2
  have k03 := k02.trans k3
  by_cases s2 : r.2.1 < drvI ts ds ds.length
  · simp (maxSteps := 4000000) (disch := omega) only [ZD, Zio, Zip, pre_, beq_self_eq_true, Nat.reduceBEq, Zq, evO, vbox, wr, Zeq, if_true, if_false, Nat.reduceEqDiff, Nat.reduceAdd, Nat.reduceLeDiff, Nat.reduceSub, and_self, and_true, true_and, reduceIte, reduceCtorEq, eq_self, implies_true, forall_const, false_implies, imp_self, decide_true, decide_false, fix_nil, fix_cons, g0, t0, t1, t5, t7, g1, g2, g3, Zfh s2]
    exact ⟨k03, by rw [hdc, if_neg s1, if_pos s2]⟩
  simp (maxSteps := 4000000) (disch := omega) only [ZD, Zio, Zip, pre_, beq_self_eq_true, Nat.reduceBEq, Zq, evO, vbox, wr, Zeq, if_true, if_false, Nat.reduceEqDiff, Nat.reduceAdd, Nat.reduceLeDiff, Nat.reduceSub, and_self, and_true, true_and, reduceIte, reduceCtorEq, eq_self, implies_true, forall_const, false_implies, imp_self, decide_true, decide_false, fix_nil, fix_cons, g0, t0, t1, t5, t7, g1, g2, g3, Zfi s2]
  simp (maxSteps := 4000000) (disch := omega) only [ZD, Zio, Zip, pre_, beq_self_eq_true, Nat.reduceBEq, Zq, evO, vbox, wr, Zeq, if_true, if_false, Nat.reduceEqDiff, Nat.reduceAdd, Nat.reduceLeDiff, Nat.reduceSub, and_self, and_true, true_and, reduceIte, reduceCtorEq, eq_self, implies_true, forall_const, false_implies, imp_self, decide_true, decide_false, fix_nil, fix_cons, g0, t0, t1, t5, t7, g1, g2, g3, G_dreg]
  refine GD_call ((r_impl_stretched V ((rSlc rTask).rdk h k03) (IntsK.keep hd k03) r.2.2.1).mono ?_)
  rintro _ H4 ⟨k4, rfl⟩
  have n3 := k3.nxt
  have g4 := (k4.get H.nxt (by omega)).trans g3
  have k04 := k03.trans k4
  by_cases s3 : r.2.2.2 < mI (gapI ts ds r.2.2.1) (lstI ts ds) ds.length
  · simp (maxSteps := 4000000) (disch := omega) only [ZD, Zio, Zip, pre_, beq_self_eq_true, Nat.reduceBEq, Zq, evO, vbox, wr, Zeq, if_true, if_false, Nat.reduceEqDiff, Nat.reduceAdd, Nat.reduceLeDiff, Nat.reduceSub, and_self, and_true, true_and, reduceIte, reduceCtorEq, eq_self, implies_true, forall_const, false_implies, imp_self, decide_true, decide_false, fix_nil, fix_cons, g0, t0, t1, t5, t7, g1, g2, g3, g4, Zfh s3]
    exact ⟨k04, by rw [hdc, if_neg s1, if_neg s2, if_pos s3]⟩
  simp (maxSteps := 4000000) (disch := omega) only [ZD, Zio, Zip, pre_, beq_self_eq_true, Nat.reduceBEq, Zq, evO, vbox, wr, Zeq, if_true, if_false, Nat.reduceEqDiff, Nat.reduceAdd, Nat.reduceLeDiff, Nat.reduceSub, and_self, and_true, true_and, reduceIte, reduceCtorEq, eq_self, implies_true, forall_const, false_implies, imp_self, decide_true, decide_false, fix_nil, fix_cons, g0, t0, t1, t5, t7, g1, g2, g3, g4, Zfi s3]
  exact ⟨k04, by rw [hdc, if_neg s1, if_neg s2, if_neg s3]⟩
theorem r_spec_DutyCode {r : Ru} (h : (rSlc rTask).rd H [v] ts) (hd : Ints H w ds) (htl : ts.length ≤ 1048576) (hdl : ds.length ≤ 1048576) (hr : ruB r = true) : Run Try.prog 91 [v, w, .agg #[.int .i64 r.1, .int .i64 r.2.1, .int .i64 r.2.2.1, .int .i64 r.2.2.2]] H fun x H' => Keep H H' ∧ x = .int .i64 (if l17D ts ds = true then dcR ts ds r else 1) := by
  have lw := fun H1 : Heap => IntsK.len_ (H1 := H1) hd
  have hrr : inR 1 1440 r.2.2.1 = true := by
    simp only [ruB, Bool.and_eq_true] at hr
    exact hr.2.2.1
  refine Run.intro c91 rfl ?_
  simp (maxSteps := 4000000) (disch := omega) only [Zq, evO, vbox, wr, Zeq, if_true, if_false, Nat.reduceEqDiff, Nat.reduceAdd, Nat.reduceLeDiff, Nat.reduceSub, and_self, and_true, true_and, reduceIte, reduceCtorEq, eq_self, implies_true, forall_const, false_implies, imp_self, decide_true, decide_false, x91]
  generalize hGb : H.push [.int .i64 r.1, .int .i64 r.2.1, .int .i64 r.2.2.1, .int .i64 r.2.2.2] = Hb
  have kb : Keep H Hb := by rw [← hGb]; exact Keep.push _ _
  have gb : Hb.get H.nxt = some (.own [.int .i64 r.1, .int .i64 r.2.1, .int .i64 r.2.2.1, .int .i64 r.2.2.2]) := by rw [← hGb, push_get', if_pos rfl]
  have nb : Hb.nxt = H.nxt + 1 := by rw [← hGb, Zbg]
  refine GO_call ((r_spec_l17Duty ((rSlc rTask).rdk h kb) (IntsK.keep hd kb) htl hdl).mono ?_)
  rintro _ Ha ⟨ka, rfl⟩
  have na := ka.nxt
  have ga := (ka.get H.nxt (by omega)).trans gb
  cases hv : l17D ts ds with
  | false =>
    simp (maxSteps := 4000000) (disch := omega) only [Zq, evO, vbox, wr, Zeq, if_true, if_false, Nat.reduceEqDiff, Nat.reduceAdd, Nat.reduceLeDiff, Nat.reduceSub, and_self, and_true, true_and, reduceIte, reduceCtorEq, eq_self, implies_true, forall_const, false_implies, imp_self, decide_true, decide_false, fix_nil, fix_cons, gb]
    exact kb.trans ka
  | true =>
  have V := l17D_iff.1 hv
  have hl := V.l
  have hn := V.n
  have na := ka.nxt
  simp (maxSteps := 4000000) (disch := omega) only [Zq, evO, vbox, wr, Zeq, if_true, if_false, Nat.reduceEqDiff, Nat.reduceAdd, Nat.reduceLeDiff, Nat.reduceSub, and_self, and_true, true_and, reduceIte, reduceCtorEq, eq_self, implies_true, forall_const, false_implies, imp_self, decide_true, decide_false, fix_nil, fix_cons, gb, ga]
  refine GO_call ((r_spec_RuleOk r.1 r.2.1 r.2.2.1 r.2.2.2 _).mono ?_)
  rintro _ Hc ⟨kc, rfl⟩
  have nc := kc.nxt
  have gc := (kc.get H.nxt (by omega)).trans ga
  have k0 : Keep H Hc := kb.trans (ka.trans kc)
  have hr' : ruB (r.1, r.2.1, r.2.2.1, r.2.2.2) = true := hr
  simp (maxSteps := 4000000) (disch := omega) only [Zq, evO, vbox, wr, Zeq, if_true, if_false, Nat.reduceEqDiff, Nat.reduceAdd, Nat.reduceLeDiff, Nat.reduceSub, and_self, and_true, true_and, reduceIte, reduceCtorEq, eq_self, implies_true, forall_const, false_implies, imp_self, decide_true, decide_false, fix_nil, fix_cons, gb, hr']
  refine G_loopF [0, 1, 5] ((ds.length - 1)) (fun c T H1 => T 7 = .int .i64 ((ds.length - c : Nat) : Int) ∧ c ≤ ds.length - 1 ∧ Keep Hc H1 ∧ ∀ j, j < ds.length - c → ordI ts ds j = false) ?_ ?_
  · simp (maxSteps := 4000000) (disch := omega) only [Zq, evO, vbox, wr, Zeq, if_true, if_false, Nat.reduceEqDiff, Nat.reduceAdd, Nat.reduceLeDiff, Nat.reduceSub, and_self, and_true, true_and, reduceIte, reduceCtorEq, eq_self, implies_true, forall_const, false_implies, imp_self, decide_true, decide_false, fix_nil, fix_cons, gb]
    have e : ds.length - (ds.length - 1) = 1 := by omega
    exact ⟨by rw [e]; rfl, Keep.refl _, fun j hj => by
      obtain rfl : j = 0 := by omega
      rfl⟩
  rintro c T H1 hT ⟨t7, hc, k1, ho⟩
  simp only [fix_nil, fix_cons, Zq, evO, vbox, wr, Zeq, if_true, if_false, Nat.reduceEqDiff, Nat.reduceAdd, Nat.reduceLeDiff, Nat.reduceSub, and_self, and_true, true_and, reduceIte, reduceCtorEq, eq_self, implies_true, forall_const, false_implies, imp_self, decide_true, decide_false] at hT
  obtain ⟨t0, t1, t5⟩ := hT
  have kH1 := k0.trans k1
  have n1 := k1.nxt
  have g1 := (k1.get H.nxt (by omega)).trans gc
  by_cases hc0 : 0 < c
  · obtain ⟨i, hi⟩ : ∃ i, i = ds.length - c := ⟨_, rfl⟩
    rw [← hi] at t7 ho
    have hin : i < ds.length := by omega
    have hi0 : 0 < i := by omega
    have hd1 := IntsK.keep hd kH1
    obtain ⟨m, q1, q2, q3, q4, q5, q6⟩ := V.el ((rSlc rTask).rdk h kH1) hin
    obtain ⟨n, p1, p2, p3, p4, p5, p6⟩ := V.el ((rSlc rTask).rdk h kH1) (by omega : i - 1 < ds.length)
    have hwi : IntKind.i64.wrap ((i : Int) - 1) = ((i - 1 : Nat) : Int) := by rw [wrap64 (by omega) (by omega)]; omega
    have hwk : IntKind.i64.wrap ((i : Int) + 1) = ((ds.length - (c - 1) : Nat) : Int) := by rw [wrap64 (by omega) (by omega)]; omega
    have ek : ds.length - (c - 1) = i + 1 := by omega
    have tx := fun (j ix : Nat) (hj : j < ds.length) => (Sl.trL (ix := ix) (o := 0) hd hj)
    have tx1 := fun ix : Nat => tx i ix hin
    have tx2 := fun ix : Nat => tx (i - 1) ix (by omega)
    have bw := Sl.blk_lt hd hin
    have bv : blk v < H.nxt := slc_blk h (by have := pl_in V.p hin; omega : (ds.getD i 0).toNat < ts.length)
    simp (maxSteps := 4000000) (disch := omega) only [Zq, evO, vbox, wr, Zeq, if_true, if_false, Nat.reduceEqDiff, Nat.reduceAdd, Nat.reduceLeDiff, Nat.reduceSub, and_self, and_true, true_and, reduceIte, reduceCtorEq, eq_self, implies_true, forall_const, false_implies, imp_self, decide_true, decide_false, fix_nil, fix_cons, gb, t0, t1, t5, t7, g1, lw, Zfh (by omega : (i : Int) < ds.length)]
    simp (maxSteps := 4000000) (disch := omega) only [ZD, Zio, Zip, pre_, beq_self_eq_true, Nat.reduceBEq, Zq, evO, vbox, wr, Zeq, if_true, if_false, Nat.reduceEqDiff, Nat.reduceAdd, Nat.reduceLeDiff, Nat.reduceSub, and_self, and_true, true_and, reduceIte, reduceCtorEq, eq_self, implies_true, forall_const, false_implies, imp_self, decide_true, decide_false, fix_nil, fix_cons, gb, t0, t1, t5, t7, g1, G_dreg, hwi, hd1.idx hin, hd1.ld hin, hd1.idx (by omega : i - 1 < ds.length), hd1.ld (by omega : i - 1 < ds.length), q1, q2, p1, p2, q6, p6, tx1, tx2]
    generalize hG2 : (((H1.push [Value.int .i64 0, .int .i64 0, .int .i64 0, .int .i64 0, .int .i64 0]).push [Value.int .i64 0, .int .i64 0, .int .i64 0, .int .i64 0, .int .i64 0]).set H1.nxt [.int .i64 (tI ts ds (i - 1)).1, .int .i64 (tI ts ds (i - 1)).2.1, .int .i64 (tI ts ds (i - 1)).2.2.1, .int .i64 (tI ts ds (i - 1)).2.2.2.1, .int .i64 (tI ts ds (i - 1)).2.2.2.2]).set (H1.nxt + 1) [.int .i64 (tI ts ds i).1, .int .i64 (tI ts ds i).2.1, .int .i64 (tI ts ds i).2.2.1, .int .i64 (tI ts ds i).2.2.2.1, .int .i64 (tI ts ds i).2.2.2.2] = H2
    obtain ⟨k2, g2, g2b, n2⟩ := two_new hG2
    clear hG2
    first | (refine And.intro (by repeat' (first | apply And.intro | omega)) ?_) | skip
    have kB2 := k1.trans k2
    by_cases c1 : (tI ts ds (i - 1)).2.1 = (tI ts ds i).1
    rotate_left
    · have hor : ordI ts ds i = true := by simp [ordI, hi0, c1]
      simp (maxSteps := 4000000) (disch := omega) only [Zq, evO, vbox, wr, Zeq, if_true, if_false, Nat.reduceEqDiff, Nat.reduceAdd, Nat.reduceLeDiff, Nat.reduceSub, and_self, and_true, true_and, reduceIte, reduceCtorEq, eq_self, implies_true, forall_const, false_implies, imp_self, decide_true, decide_false, fix_nil, fix_cons, gb, t0, t1, t5, t7, g1, g2, g2b, Zfm c1]
      exact ⟨kH1.trans k2, by rw [dcR_ord hin hor]⟩
    by_cases c2 : (tI ts ds i).2.2.1 < (tI ts ds (i - 1)).2.2.2.1
    · have hor : ordI ts ds i = true := by simp [ordI, hi0, c2]
      simp (maxSteps := 4000000) (disch := omega) only [Zq, evO, vbox, wr, Zeq, if_true, if_false, Nat.reduceEqDiff, Nat.reduceAdd, Nat.reduceLeDiff, Nat.reduceSub, and_self, and_true, true_and, reduceIte, reduceCtorEq, eq_self, implies_true, forall_const, false_implies, imp_self, decide_true, decide_false, fix_nil, fix_cons, gb, t0, t1, t5, t7, g1, g2, g2b, Zfl c1, Zfh c2]
      exact ⟨kH1.trans k2, by rw [dcR_ord hin hor]⟩
    · have hor : ordI ts ds i = false := by simp [ordI, c1]; intro; omega
      simp (maxSteps := 4000000) (disch := omega) only [Zq, evO, vbox, wr, Zeq, if_true, if_false, Nat.reduceEqDiff, Nat.reduceAdd, Nat.reduceLeDiff, Nat.reduceSub, and_self, and_true, true_and, reduceIte, reduceCtorEq, eq_self, implies_true, forall_const, false_implies, imp_self, decide_true, decide_false, fix_nil, fix_cons, gb, t0, t1, t5, t7, g1, g2, g2b, Zfl c1, Zfi c2, hwk]
      exact ⟨c - 1, by omega, rfl, by omega, kB2, fun j hj => by
        by_cases e : j = i
        · rw [e]; exact hor
        · exact ho j (by omega)⟩
  obtain rfl : c = 0 := by omega
  rw [Nat.sub_zero] at ho
  have hdc := dcR_no (r := r) ho
  have h1 := (rSlc rTask).rdk h kH1
  have hd1 := IntsK.keep hd kH1
  simp (maxSteps := 4000000) (disch := omega) only [Zq, evO, vbox, wr, Zeq, if_true, if_false, Nat.reduceEqDiff, Nat.reduceAdd, Nat.reduceLeDiff, Nat.reduceSub, and_self, and_true, true_and, reduceIte, reduceCtorEq, eq_self, implies_true, forall_const, false_implies, imp_self, decide_true, decide_false, fix_nil, fix_cons, gb, t0, t1, t5, t7, g1, lw, Zfi (by omega : ¬ ((ds.length - 0 : Nat) : Int) < ds.length)]
  have hw1 : IntKind.i64.wrap ((ds.length : Int) - 1) = ((ds.length - 1 : Nat) : Int) := by rw [wrap64 (by omega) (by omega)]; omega
  obtain ⟨m, q1, q2, q3, q4, q5, _⟩ := V.el h1 (by omega : ds.length - 1 < ds.length)
  obtain ⟨n, p1, p2, p3, p4, p5, _⟩ := V.el h1 (by omega : 0 < ds.length)
  obtain ⟨r1, r2, r3⟩ := V.rng (by omega : ds.length - 1 < ds.length)
  obtain ⟨s1, s2, s3⟩ := V.rng (by omega : 0 < ds.length)
  have r2 := inR_iff.1 r2
  have s1 := inR_iff.1 s1
  have hw2 : IntKind.i64.wrap ((tI ts ds (ds.length - 1)).2.2.2.1 - (tI ts ds 0).2.2.1) = sprI ts ds := wrap64 (by omega) (by omega)
  have ix0 : ∀ H0 : Heap, vidx H0 1 w (.int .i64 0) = some (adr w 0 1 0, H0) := fun H0 => IntsK.idx (k' := .i64) (H1 := H0) (i := 0) hd (by omega)
  have ix1 := fun H0 : Heap => IntsK.idx (k' := .i64) (H1 := H0) (i := ds.length - 1) hd (by omega)
  refine G_calm rfl ?_
  by_cases z1 : r.1 < sprI ts ds
  · simp (maxSteps := 4000000) (disch := omega) only [Zq, evO, vbox, wr, Zeq, if_true, if_false, Nat.reduceEqDiff, Nat.reduceAdd, Nat.reduceLeDiff, Nat.reduceSub, and_self, and_true, true_and, reduceIte, reduceCtorEq, eq_self, implies_true, forall_const, false_implies, imp_self, decide_true, decide_false, fix_nil, fix_cons, gb, t0, t1, t5, t7, g1, lw, hw1, ix0, ix1, hd1.ld (by omega : 0 < ds.length), hd1.ld (by omega : ds.length - 1 < ds.length), q1, q5, q4, p1, p5, p3, hw2, Zfh z1]
    exact ⟨kH1, by rw [hdc, if_pos z1]⟩
  simp (maxSteps := 4000000) (disch := omega) only [Zq, evO, vbox, wr, Zeq, if_true, if_false, Nat.reduceEqDiff, Nat.reduceAdd, Nat.reduceLeDiff, Nat.reduceSub, and_self, and_true, true_and, reduceIte, reduceCtorEq, eq_self, implies_true, forall_const, false_implies, imp_self, decide_true, decide_false, fix_nil, fix_cons, gb, t0, t1, t5, t7, g1, lw, hw1, ix0, ix1, hd1.ld (by omega : 0 < ds.length), hd1.ld (by omega : ds.length - 1 < ds.length), q1, q5, q4, p1, p5, p3, hw2, Zfi z1]
  simp (maxSteps := 4000000) (disch := omega) only [ZD, Zio, Zip, pre_, beq_self_eq_true, Nat.reduceBEq, Zq, evO, vbox, wr, Zeq, if_true, if_false, Nat.reduceEqDiff, Nat.reduceAdd, Nat.reduceLeDiff, Nat.reduceSub, and_self, and_true, true_and, reduceIte, reduceCtorEq, eq_self, implies_true, forall_const, false_implies, imp_self, decide_true, decide_false, fix_nil, fix_cons, gb, t0, t1, t5, t7, g1, G_dreg]
  refine GD_call ((r_spec_Driven V h1 hd1 htl).mono ?_)
  rintro _ H3 ⟨k3, rfl⟩
  have g3 := (k3.get H.nxt (by omega)).trans g1
  have k03 := kH1.trans k3
  have n3 := k3.nxt
  by_cases z2 : r.2.1 < drvI ts ds ds.length
  · simp (maxSteps := 4000000) (disch := omega) only [ZD, Zio, Zip, pre_, beq_self_eq_true, Nat.reduceBEq, Zq, evO, vbox, wr, Zeq, if_true, if_false, Nat.reduceEqDiff, Nat.reduceAdd, Nat.reduceLeDiff, Nat.reduceSub, and_self, and_true, true_and, reduceIte, reduceCtorEq, eq_self, implies_true, forall_const, false_implies, imp_self, decide_true, decide_false, fix_nil, fix_cons, gb, t0, t1, t5, t7, g1, g3, Zfh z2]
    exact ⟨k03, by rw [hdc, if_neg z1, if_pos z2]⟩
  simp (maxSteps := 4000000) (disch := omega) only [ZD, Zio, Zip, pre_, beq_self_eq_true, Nat.reduceBEq, Zq, evO, vbox, wr, Zeq, if_true, if_false, Nat.reduceEqDiff, Nat.reduceAdd, Nat.reduceLeDiff, Nat.reduceSub, and_self, and_true, true_and, reduceIte, reduceCtorEq, eq_self, implies_true, forall_const, false_implies, imp_self, decide_true, decide_false, fix_nil, fix_cons, gb, t0, t1, t5, t7, g1, g3, Zfi z2]
  simp (maxSteps := 4000000) (disch := omega) only [ZD, Zio, Zip, pre_, beq_self_eq_true, Nat.reduceBEq, Zq, evO, vbox, wr, Zeq, if_true, if_false, Nat.reduceEqDiff, Nat.reduceAdd, Nat.reduceLeDiff, Nat.reduceSub, and_self, and_true, true_and, reduceIte, reduceCtorEq, eq_self, implies_true, forall_const, false_implies, imp_self, decide_true, decide_false, fix_nil, fix_cons, gb, t0, t1, t5, t7, g1, g3, G_dreg]
  refine GD_call ((r_spec_Stretched V ((rSlc rTask).rdk h k03) (IntsK.keep hd k03) htl hrr).mono ?_)
  rintro _ H4 ⟨k4, rfl⟩
  have g4 := (k4.get H.nxt (by omega)).trans g3
  have k04 := k03.trans k4
  by_cases z3 : r.2.2.2 < mI (gapI ts ds r.2.2.1) (lstI ts ds) ds.length
  · simp (maxSteps := 4000000) (disch := omega) only [ZD, Zio, Zip, pre_, beq_self_eq_true, Nat.reduceBEq, Zq, evO, vbox, wr, Zeq, if_true, if_false, Nat.reduceEqDiff, Nat.reduceAdd, Nat.reduceLeDiff, Nat.reduceSub, and_self, and_true, true_and, reduceIte, reduceCtorEq, eq_self, implies_true, forall_const, false_implies, imp_self, decide_true, decide_false, fix_nil, fix_cons, gb, t0, t1, t5, t7, g1, g3, g4, Zfh z3]
    exact ⟨k04, by rw [hdc, if_neg z1, if_neg z2, if_pos z3]⟩
  simp (maxSteps := 4000000) (disch := omega) only [ZD, Zio, Zip, pre_, beq_self_eq_true, Nat.reduceBEq, Zq, evO, vbox, wr, Zeq, if_true, if_false, Nat.reduceEqDiff, Nat.reduceAdd, Nat.reduceLeDiff, Nat.reduceSub, and_self, and_true, true_and, reduceIte, reduceCtorEq, eq_self, implies_true, forall_const, false_implies, imp_self, decide_true, decide_false, fix_nil, fix_cons, gb, t0, t1, t5, t7, g1, g3, g4, Zfi z3]
  exact ⟨k04, by rw [hdc, if_neg z1, if_neg z2, if_neg z3]⟩
end
end Go.Proofs.Ytiajbefljkikiaa.AX
