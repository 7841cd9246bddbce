/- The stable sort: symmetric merges. No condition beyond each law's own; of the program: the functions' forms. -/
import Derived.Test.YtjjglonmaajjoaaSrx
namespace Go.Proofs.Ytjjglonmaajjoaa.AX
open Go
set_option maxRecDepth 10000
set_option maxHeartbeats 8000000
set_option linter.unusedSimpArgs false
set_option linter.unusedVariables false
section
variable {X : Type} {lt bf : X → X → Prop} {f g g1 g2 : Nat → X} {A s mid e B : Nat}
theorem mg_triv (h : Mg lt bf A s mid g) (hs : s ≤ A ∨ mid ≤ s) : Srt lt A mid g := by
  intro i j q1 q2 q3
  rcases hs with hs | hs
  · exact h.r i j (by omega) q2 q3
  · exact h.l i j q1 q2 (by omega)
theorem Mg.congr (h : Mg lt bf A s mid g) (hq : ∀ k, A ≤ k → k < mid → g1 k = g k) (h1 : A ≤ s) (h2 : s ≤ mid) : Mg lt bf A s mid g1 :=
  ⟨fun i j q1 q2 q3 => by rw [hq i q1 (by omega), hq j (by omega) (by omega)]; exact h.l i j q1 q2 q3,
   fun i j q1 q2 q3 => by rw [hq i (by omega) (by omega), hq j (by omega) q3]; exact h.r i j q1 q2 q3,
   fun i j q1 q2 q3 q4 => by rw [hq i q1 (by omega), hq j (by omega) q4]; exact h.x i j q1 q2 q3 q4⟩
theorem sm_end (hg : Rl A B f g) (hx : ∀ i j, A ≤ i → i < mid → mid ≤ j → j < B → lt (g i) (g j)) (hm : A ≤ mid) (hm2 : mid ≤ B) (l1 : Rl A mid g g1) (l2 : Srt lt A mid g1) (r1 : Rl mid B g1 g2) (r2 : Srt lt mid B g2) : Rl A B f g2 ∧ Srt lt A B g2 := by
  refine ⟨hg.trans ((l1.mono (Nat.le_refl _) hm2).trans (r1.mono hm (Nat.le_refl _))), halves (m := mid) (fun i j q1 q2 q3 => ?_) r2 (fun i j q1 q2 q3 q4 => ?_)⟩
  · rw [r1.out i (by omega), r1.out j (by omega)]; exact l2 i j q1 q2 q3
  · rw [r1.out i (by omega)]
    obtain ⟨x, x1, x2, x3⟩ := l1.into i q1 q2
    obtain ⟨y, y1, y2, y3⟩ := r1.into j q3 q4
    rw [x3, y3, l1.out y (by omega)]
    exact hx _ _ x1 x2 y1 y2
theorem rot_i0 {f : Nat → X} {s j : Nat} : rot f s 0 j = f := by
  funext k
  unfold rot
  (repeat' split) <;> first | rfl | (exfalso; omega) | (congr 1; omega)
theorem rot_j0 {f : Nat → X} {s i : Nat} : rot f s i 0 = f := by
  funext k
  unfold rot
  (repeat' split) <;> first | rfl | (exfalso; omega) | (congr 1; omega)
end
theorem abin_shr1 {k : IntKind} {s : Nat} : abin .shr (.int .u64 (s : Int)) (.int k 1) = some (.int .u64 ((s / 2 : Nat) : Int)) := by
  have e : ((s : Int)).fdiv 2 = ((s / 2 : Nat) : Int) := by rw [Int.fdiv_eq_ediv_of_nonneg _ (by omega)]; rfl
  rw [← e]
  simp [abin, IntKind.bits]
theorem wrapU {s : Nat} (h : s ≤ 4000000) : IntKind.u64.wrap (s : Int) = (s : Int) := by
  simp [IntKind.wrap, IntKind.bits, IntKind.signed]
  omega
section
variable {a N : Nat} {va : Value}
theorem r_symMerge (hva : va = .slice (some ⟨a, 0, none⟩) N 4) (hN : N ≤ 1000000) : ∀ (n : Nat) {H : Heap} {f : Nat → Rnn} {A M B : Nat}, B - A ≤ n → Rw H a N f → A < M → M < B → B ≤ N → Mg ltR bfR A M B f →
    Run Try.prog 109 [va, .int .i64 (A : Int), .int .i64 (M : Int), .int .i64 (B : Int), cmpV] H fun r H' => Rk a H H' ∧ (∃ g, Rw H' a N g ∧ Rl A B f g ∧ Srt ltR A B g) ∧ r = .tuple #[] := by
  intro n
  induction n with
  | zero => intro H f A M B h0 _ h1 h2; omega
  | succ n ih =>
  intro H f A M B h0 R hAM hMB hBN hMg
  have w1 : IntKind.i64.wrap ((M : Int) - A) = ((M - A : Nat) : Int) := by rw [wrap64 (by omega) (by omega)]; omega
  have w2 : IntKind.i64.wrap ((B : Int) - M) = ((B - M : Nat) : Int) := by rw [wrap64 (by omega) (by omega)]; omega
  have half : ∀ i j : Nat, i ≤ 1000000 → j ≤ 1000000 → IntKind.i64.wrap ((i : Int) + j) = ((i + j : Nat) : Int) ∧ IntKind.u64.wrap ((i + j : Nat) : Int) = ((i + j : Nat) : Int) ∧ IntKind.i64.wrap (((i + j) / 2 : Nat) : Int) = (((i + j) / 2 : Nat) : Int) := fun i j hi hj => by
    refine ⟨by rw [wrap64 (by omega) (by omega)]; omega, wrapU (by omega), wrap64 (by omega) (by omega)⟩
  by_cases hM1 : ((M - A : Nat) : Int) = 1
  · have hM : M = A + 1 := by omega
    refine Run.intro c109 rfl ?_
    simp (maxSteps := 4000000) (disch := omega) only [Zq, evO, vbox, wr, Zeq, if_true, if_false, Nat.reduceEqDiff, Nat.reduceAdd, Nat.reduceLeDiff, Nat.reduceSub, and_self, and_true, true_and, reduceIte, reduceCtorEq, eq_self, implies_true, forall_const, false_implies, imp_self, decide_true, decide_false, x109, w1, Zfl hM1]
    refine G_loopF [0, 1, 4] ((B - M)) (fun k T H1 => ∃ i j : Nat, T 10 = .int .i64 (i : Int) ∧ T 11 = .int .i64 (j : Int) ∧ k = j - i ∧ M ≤ i ∧ i ≤ j ∧ j ≤ B ∧ Rk a H H1 ∧ Rw H1 a N f ∧ (M < i → ltR (f (i - 1)) (f A)) ∧ (j < B → ltR (f A) (f j))) ?_ ?_
    · simp (maxSteps := 4000000) (disch := omega) only [Zq, evO, vbox, wr, Zeq, if_true, if_false, Nat.reduceEqDiff, Nat.reduceAdd, Nat.reduceLeDiff, Nat.reduceSub, and_self, and_true, true_and, reduceIte, reduceCtorEq, eq_self, implies_true, forall_const, false_implies, imp_self, decide_true, decide_false, fix_nil, fix_cons]
      exact ⟨M, B, rfl, rfl, rfl, by omega, by omega, by omega, Rk.refl _ _, R, fun h => by omega, fun h => by omega⟩
    rintro k T H1 hT ⟨i, j, t10, t11, hk, hMi, hij, hjB, k1, R1, hlo, hhi⟩
    simp only [fix_nil, fix_cons, Zq, evO, vbox, wr, Zeq, if_true, if_false, Nat.reduceEqDiff, Nat.reduceAdd, Nat.reduceLeDiff, Nat.reduceSub, and_self, and_true, true_and, reduceIte, reduceCtorEq, eq_self, implies_true, forall_const, false_implies, imp_self, decide_true, decide_false] at hT
    obtain ⟨t0, t1, t4⟩ := hT
    by_cases hlt : i < j
    · obtain ⟨x1, x2, x3⟩ := half i j (by omega) (by omega)
      obtain ⟨h, hh⟩ : ∃ h, h = (i + j) / 2 := ⟨_, rfl⟩
      rw [← hh] at x3
      have hb : bfR (f A) (f h) := hMg.x A h (Nat.le_refl _) (by omega) (by omega) (by omega)
      have ih1 := R1.idx hva (by omega : h < N)
      have ia1 := R1.idx hva (by omega : A < N)
      have lh1 := R1.ld hva (by omega : h < N)
      have la1 := R1.ld hva (by omega : A < N)
      have tx := fun (p ix : Nat) (hp : p < N) => (Sl.trL (ix := ix) (o := 0) (R1.sl hva) hp)
      have tx1 := fun ix : Nat => tx h ix (by omega)
      have tx2 := fun ix : Nat => tx A ix (by omega)
      have bl := Sl.blk_lt (R1.sl hva) (by omega : A < N)
      have sh : abin .shr (.int .u64 ((i + j : Nat) : Int)) (.int .i64 1) = some (.int .u64 (h : Int)) := by rw [hh]; exact abin_shr1
      have sh' : abin .shr (.int .u64 ((i + j : Nat) : Int)) (.int .u64 1) = some (.int .u64 (h : Int)) := by rw [hh]; exact abin_shr1
      simp (maxSteps := 4000000) (disch := omega) only [Zq, evO, vbox, wr, Zeq, if_true, if_false, Nat.reduceEqDiff, Nat.reduceAdd, Nat.reduceLeDiff, Nat.reduceSub, and_self, and_true, true_and, reduceIte, reduceCtorEq, eq_self, implies_true, forall_const, false_implies, imp_self, decide_true, decide_false, fix_nil, fix_cons, t0, t1, t4, t10, t11, Zfh (by omega : (i : Int) < (j : Int)), x1, x2, x3, sh, sh']
      simp (maxSteps := 4000000) (disch := omega) only [ZD, Zio, Zip, pre_, beq_self_eq_true, Nat.reduceBEq, Zq, evO, vbox, wr, Zeq, if_true, if_false, Nat.reduceEqDiff, Nat.reduceAdd, Nat.reduceLeDiff, Nat.reduceSub, and_self, and_true, true_and, reduceIte, reduceCtorEq, eq_self, implies_true, forall_const, false_implies, imp_self, decide_true, decide_false, fix_nil, fix_cons, t0, t1, t4, t10, t11, G_dreg, x1, x2, x3, sh, sh', ih1, ia1, lh1, la1, tx1, tx2]
      refine GD_calld_eq (f := 58) (cs := #[]) (vs := [.agg #[.int .i64 (f h).1, .int .i64 (f h).2.1, .int .i64 (f h).2.2.1, .int .i64 (f h).2.2.2], .agg #[.int .i64 (f A).1, .int .i64 (f A).2.1, .int .i64 (f A).2.2.1, .int .i64 (f A).2.2.2]]) (by simp (maxSteps := 4000000) (disch := omega) only [Zq, evO, vbox, wr, Zeq, if_true, if_false, Nat.reduceEqDiff, Nat.reduceAdd, Nat.reduceLeDiff, Nat.reduceSub, and_self, and_true, true_and, reduceIte, reduceCtorEq, eq_self, implies_true, forall_const, false_implies, imp_self, decide_true, decide_false, fix_nil, fix_cons, t0, t1, t4, t10, t11]) (by simp (maxSteps := 4000000) (disch := omega) only [Zq, evO, vbox, wr, Zeq, if_true, if_false, Nat.reduceEqDiff, Nat.reduceAdd, Nat.reduceLeDiff, Nat.reduceSub, and_self, and_true, true_and, reduceIte, reduceCtorEq, eq_self, implies_true, forall_const, false_implies, imp_self, decide_true, decide_false, fix_nil, fix_cons, t0, t1, t4, t10, t11]) ((r_cmpRun (f h) (f A) H1).mono ?_)
      rintro _ H3 ⟨k3, rfl⟩
      have R3 := R1.keep k3
      have k13 := k1.trans (Rk.keep k3)
      have wh : IntKind.i64.wrap ((h : Int) + 1) = ((h + 1 : Nat) : Int) := by rw [wrap64 (by omega) (by omega)]; omega
      by_cases hc : cmpZ (f h).2.2.1 (f A).2.2.1 < 0
      · have hgt := cmpZ_neg.1 hc
        simp (maxSteps := 4000000) (disch := omega) only [ZD, Zio, Zip, pre_, beq_self_eq_true, Nat.reduceBEq, Zq, evO, vbox, wr, Zeq, if_true, if_false, Nat.reduceEqDiff, Nat.reduceAdd, Nat.reduceLeDiff, Nat.reduceSub, and_self, and_true, true_and, reduceIte, reduceCtorEq, eq_self, implies_true, forall_const, false_implies, imp_self, decide_true, decide_false, fix_nil, fix_cons, t0, t1, t4, t10, t11, Zfh hc, wh]
        exact ⟨j - (h + 1), by omega, h + 1, j, rfl, rfl, rfl, by omega, by omega, by omega, k13, R3, fun _ => .inl hgt, hhi⟩
      · have hle : ¬ (f h).2.2.1 < (f A).2.2.1 := fun q => hc (cmpZ_neg.2 q)
        simp (maxSteps := 4000000) (disch := omega) only [ZD, Zio, Zip, pre_, beq_self_eq_true, Nat.reduceBEq, Zq, evO, vbox, wr, Zeq, if_true, if_false, Nat.reduceEqDiff, Nat.reduceAdd, Nat.reduceLeDiff, Nat.reduceSub, and_self, and_true, true_and, reduceIte, reduceCtorEq, eq_self, implies_true, forall_const, false_implies, imp_self, decide_true, decide_false, fix_nil, fix_cons, t0, t1, t4, t10, t11, Zfi hc]
        exact ⟨h - i, by omega, i, h, rfl, rfl, rfl, by omega, by omega, by omega, k13, R3, hlo, fun _ => odR.no hb (decide_eq_false hle)⟩
    obtain rfl : i = j := by omega
    simp (maxSteps := 4000000) (disch := omega) only [Zq, evO, vbox, wr, Zeq, if_true, if_false, Nat.reduceEqDiff, Nat.reduceAdd, Nat.reduceLeDiff, Nat.reduceSub, and_self, and_true, true_and, reduceIte, reduceCtorEq, eq_self, implies_true, forall_const, false_implies, imp_self, decide_true, decide_false, fix_nil, fix_cons, t0, t1, t4, t10, t11, Zfi (by omega : ¬ (i : Int) < (i : Int))]
    have wi : IntKind.i64.wrap ((i : Int) - 1) = ((i - 1 : Nat) : Int) := by rw [wrap64 (by omega) (by omega)]; omega
    refine G_forF [0, 10] ((i - 1 - A)) (fun q T H2 => T 13 = .int .i64 ((A + q : Nat) : Int) ∧ Rk a H H2 ∧ Rw H2 a N (shl f A (A + q + 1))) 0 (Nat.zero_le _) ?_ ?_
    · simp (maxSteps := 4000000) (disch := omega) only [Zq, evO, vbox, wr, Zeq, if_true, if_false, Nat.reduceEqDiff, Nat.reduceAdd, Nat.reduceLeDiff, Nat.reduceSub, and_self, and_true, true_and, reduceIte, reduceCtorEq, eq_self, implies_true, forall_const, false_implies, imp_self, decide_true, decide_false, fix_nil, fix_cons, t0, t1, t4, t10, t11]
      exact ⟨k1, by rw [Nat.add_zero, shl_one]; exact R1⟩
    rintro q T H2 hq hT ⟨t13, k2, R2⟩
    simp only [fix_nil, fix_cons, Zq, evO, vbox, wr, Zeq, if_true, if_false, Nat.reduceEqDiff, Nat.reduceAdd, Nat.reduceLeDiff, Nat.reduceSub, and_self, and_true, true_and, reduceIte, reduceCtorEq, eq_self, implies_true, forall_const, false_implies, imp_self, decide_true, decide_false, t0, t1, t4, t10, t11] at hT
    obtain ⟨t0, t10⟩ := hT
    by_cases hqn : q < i - 1 - A
    · obtain ⟨x, hx⟩ : ∃ x, x = A + q := ⟨_, rfl⟩
      rw [← hx] at t13 R2
      have wk : IntKind.i64.wrap ((x : Int) + 1) = ((x + 1 : Nat) : Int) := by rw [wrap64 (by omega) (by omega)]; omega
      have i1 := R2.idx hva (by omega : x < N)
      have i2 := R2.idx hva (by omega : x + 1 < N)
      have l1 := R2.ld hva (by omega : x < N)
      have l2 := R2.ld hva (by omega : x + 1 < N)
      have e1 := R2.st hva (by omega : x < N) (shl f A (x + 1) (x + 1))
      have R4 := R2.set x (shl f A (x + 1) (x + 1))
      have e2 := R4.st hva (by omega : x + 1 < N) (shl f A (x + 1) x)
      have R5 := R4.set (x + 1) (shl f A (x + 1) x)
      rw [sw_two, shl_succ (by omega)] at R5
      have ex : x + 2 = A + (q + 1) + 1 := by omega
      rw [ex] at R5
      simp (maxSteps := 4000000) (disch := omega) only [Zq, evO, vbox, wr, Zeq, if_true, if_false, Nat.reduceEqDiff, Nat.reduceAdd, Nat.reduceLeDiff, Nat.reduceSub, and_self, and_true, true_and, reduceIte, reduceCtorEq, eq_self, implies_true, forall_const, false_implies, imp_self, decide_true, decide_false, fix_nil, fix_cons, t0, t1, t4, t10, t11, t13, wi, Zfh (by omega : (x : Int) < ((i - 1 : Nat) : Int))]
      refine G_tame rfl ?_
      simp (maxSteps := 4000000) (disch := omega) only [Zq, evO, vbox, wr, Zeq, if_true, if_false, Nat.reduceEqDiff, Nat.reduceAdd, Nat.reduceLeDiff, Nat.reduceSub, and_self, and_true, true_and, reduceIte, reduceCtorEq, eq_self, implies_true, forall_const, false_implies, imp_self, decide_true, decide_false, fix_nil, fix_cons, t0, t1, t4, t10, t11, t13, wk, i1, i2, l1, l2, e1, e2]
      exact ⟨hqn, by rw [show A + (q + 1) = x + 1 by omega], k2.trans (Rk.set.trans Rk.set), R5⟩
    · obtain rfl : q = i - 1 - A := by omega
      rw [show A + (i - 1 - A) + 1 = i by omega] at R2
      simp (maxSteps := 4000000) (disch := omega) only [Zq, evO, vbox, wr, Zeq, if_true, if_false, Nat.reduceEqDiff, Nat.reduceAdd, Nat.reduceLeDiff, Nat.reduceSub, and_self, and_true, true_and, reduceIte, reduceCtorEq, eq_self, implies_true, forall_const, false_implies, imp_self, decide_true, decide_false, fix_nil, fix_cons, t0, t1, t4, t10, t11, t13, wi, Zfi (by omega : ¬ ((A + (i - 1 - A) : Nat) : Int) < ((i - 1 : Nat) : Int))]
      subst hM
      exact ⟨k2, _, R2, shl_Rl (by omega) hjB, mg_left odR hMg hMi hjB hlo hhi⟩
  by_cases hB1 : ((B - M : Nat) : Int) = 1
  · have hB : B = M + 1 := by omega
    refine Run.intro c109 rfl ?_
    simp (maxSteps := 4000000) (disch := omega) only [Zq, evO, vbox, wr, Zeq, if_true, if_false, Nat.reduceEqDiff, Nat.reduceAdd, Nat.reduceLeDiff, Nat.reduceSub, and_self, and_true, true_and, reduceIte, reduceCtorEq, eq_self, implies_true, forall_const, false_implies, imp_self, decide_true, decide_false, x109, w1, Zfm hM1, w2, Zfl hB1]
    refine G_loopF [0, 2, 4] ((M - A)) (fun k T H1 => ∃ i j : Nat, T 14 = .int .i64 (i : Int) ∧ T 15 = .int .i64 (j : Int) ∧ k = j - i ∧ A ≤ i ∧ i ≤ j ∧ j ≤ M ∧ Rk a H H1 ∧ Rw H1 a N f ∧ (A < i → ltR (f (i - 1)) (f M)) ∧ (j < M → ltR (f M) (f j))) ?_ ?_
    · simp (maxSteps := 4000000) (disch := omega) only [Zq, evO, vbox, wr, Zeq, if_true, if_false, Nat.reduceEqDiff, Nat.reduceAdd, Nat.reduceLeDiff, Nat.reduceSub, and_self, and_true, true_and, reduceIte, reduceCtorEq, eq_self, implies_true, forall_const, false_implies, imp_self, decide_true, decide_false, fix_nil, fix_cons]
      exact ⟨A, M, rfl, rfl, rfl, by omega, by omega, by omega, Rk.refl _ _, R, fun h => by omega, fun h => by omega⟩
    rintro k T H1 hT ⟨i, j, t14, t15, hk, hAi, hij, hjM, k1, R1, hlo, hhi⟩
    simp only [fix_nil, fix_cons, Zq, evO, vbox, wr, Zeq, if_true, if_false, Nat.reduceEqDiff, Nat.reduceAdd, Nat.reduceLeDiff, Nat.reduceSub, and_self, and_true, true_and, reduceIte, reduceCtorEq, eq_self, implies_true, forall_const, false_implies, imp_self, decide_true, decide_false] at hT
    obtain ⟨t0, t2, t4⟩ := hT
    by_cases hlt : i < j
    · obtain ⟨x1, x2, x3⟩ := half i j (by omega) (by omega)
      obtain ⟨h, hh⟩ : ∃ h, h = (i + j) / 2 := ⟨_, rfl⟩
      rw [← hh] at x3
      have hb : bfR (f h) (f M) := hMg.x h M (by omega) (by omega) (Nat.le_refl _) (by omega)
      have ih1 := R1.idx hva (by omega : h < N)
      have ia1 := R1.idx hva (by omega : M < N)
      have lh1 := R1.ld hva (by omega : h < N)
      have la1 := R1.ld hva (by omega : M < N)
      have tx := fun (p ix : Nat) (hp : p < N) => (Sl.trL (ix := ix) (o := 0) (R1.sl hva) hp)
      have tx1 := fun ix : Nat => tx h ix (by omega)
      have tx2 := fun ix : Nat => tx M ix (by omega)
      have bl := Sl.blk_lt (R1.sl hva) (by omega : A < N)
      have sh : abin .shr (.int .u64 ((i + j : Nat) : Int)) (.int .i64 1) = some (.int .u64 (h : Int)) := by rw [hh]; exact abin_shr1
      have sh' : abin .shr (.int .u64 ((i + j : Nat) : Int)) (.int .u64 1) = some (.int .u64 (h : Int)) := by rw [hh]; exact abin_shr1
      simp (maxSteps := 4000000) (disch := omega) only [Zq, evO, vbox, wr, Zeq, if_true, if_false, Nat.reduceEqDiff, Nat.reduceAdd, Nat.reduceLeDiff, Nat.reduceSub, and_self, and_true, true_and, reduceIte, reduceCtorEq, eq_self, implies_true, forall_const, false_implies, imp_self, decide_true, decide_false, fix_nil, fix_cons, t0, t2, t4, t14, t15, Zfh (by omega : (i : Int) < (j : Int)), x1, x2, x3, sh, sh']
      simp (maxSteps := 4000000) (disch := omega) only [ZD, Zio, Zip, pre_, beq_self_eq_true, Nat.reduceBEq, Zq, evO, vbox, wr, Zeq, if_true, if_false, Nat.reduceEqDiff, Nat.reduceAdd, Nat.reduceLeDiff, Nat.reduceSub, and_self, and_true, true_and, reduceIte, reduceCtorEq, eq_self, implies_true, forall_const, false_implies, imp_self, decide_true, decide_false, fix_nil, fix_cons, t0, t2, t4, t14, t15, G_dreg, x1, x2, x3, sh, sh', ih1, ia1, lh1, la1, tx1, tx2]
      refine GD_calld_eq (f := 58) (cs := #[]) (vs := [.agg #[.int .i64 (f M).1, .int .i64 (f M).2.1, .int .i64 (f M).2.2.1, .int .i64 (f M).2.2.2], .agg #[.int .i64 (f h).1, .int .i64 (f h).2.1, .int .i64 (f h).2.2.1, .int .i64 (f h).2.2.2]]) (by simp (maxSteps := 4000000) (disch := omega) only [Zq, evO, vbox, wr, Zeq, if_true, if_false, Nat.reduceEqDiff, Nat.reduceAdd, Nat.reduceLeDiff, Nat.reduceSub, and_self, and_true, true_and, reduceIte, reduceCtorEq, eq_self, implies_true, forall_const, false_implies, imp_self, decide_true, decide_false, fix_nil, fix_cons, t0, t2, t4, t14, t15]) (by simp (maxSteps := 4000000) (disch := omega) only [Zq, evO, vbox, wr, Zeq, if_true, if_false, Nat.reduceEqDiff, Nat.reduceAdd, Nat.reduceLeDiff, Nat.reduceSub, and_self, and_true, true_and, reduceIte, reduceCtorEq, eq_self, implies_true, forall_const, false_implies, imp_self, decide_true, decide_false, fix_nil, fix_cons, t0, t2, t4, t14, t15]) ((r_cmpRun (f M) (f h) H1).mono ?_)
      rintro _ H3 ⟨k3, rfl⟩
      have R3 := R1.keep k3
      have k13 := k1.trans (Rk.keep k3)
      have wh : IntKind.i64.wrap ((h : Int) + 1) = ((h + 1 : Nat) : Int) := by rw [wrap64 (by omega) (by omega)]; omega
      by_cases hc : cmpZ (f M).2.2.1 (f h).2.2.1 < 0
      · have hgt := cmpZ_neg.1 hc
        simp (maxSteps := 4000000) (disch := omega) only [ZD, Zio, Zip, pre_, beq_self_eq_true, Nat.reduceBEq, Zq, evO, vbox, wr, Zeq, if_true, if_false, Nat.reduceEqDiff, Nat.reduceAdd, Nat.reduceLeDiff, Nat.reduceSub, and_self, and_true, true_and, reduceIte, reduceCtorEq, eq_self, implies_true, forall_const, false_implies, imp_self, decide_true, decide_false, fix_nil, fix_cons, t0, t2, t4, t14, t15, Zfh hc]
        exact ⟨h - i, by omega, i, h, rfl, rfl, rfl, by omega, by omega, by omega, k13, R3, hlo, fun _ => .inl hgt⟩
      · have hle : ¬ (f M).2.2.1 < (f h).2.2.1 := fun q => hc (cmpZ_neg.2 q)
        simp (maxSteps := 4000000) (disch := omega) only [ZD, Zio, Zip, pre_, beq_self_eq_true, Nat.reduceBEq, Zq, evO, vbox, wr, Zeq, if_true, if_false, Nat.reduceEqDiff, Nat.reduceAdd, Nat.reduceLeDiff, Nat.reduceSub, and_self, and_true, true_and, reduceIte, reduceCtorEq, eq_self, implies_true, forall_const, false_implies, imp_self, decide_true, decide_false, fix_nil, fix_cons, t0, t2, t4, t14, t15, Zfi hc, wh]
        exact ⟨j - (h + 1), by omega, h + 1, j, rfl, rfl, rfl, by omega, by omega, by omega, k13, R3, fun _ => odR.no hb (decide_eq_false hle), hhi⟩
    obtain rfl : i = j := by omega
    simp (maxSteps := 4000000) (disch := omega) only [Zq, evO, vbox, wr, Zeq, if_true, if_false, Nat.reduceEqDiff, Nat.reduceAdd, Nat.reduceLeDiff, Nat.reduceSub, and_self, and_true, true_and, reduceIte, reduceCtorEq, eq_self, implies_true, forall_const, false_implies, imp_self, decide_true, decide_false, fix_nil, fix_cons, t0, t2, t4, t14, t15, Zfi (by omega : ¬ (i : Int) < (i : Int))]
    refine G_loopF [0, 14] ((M - i)) (fun q T H2 => T 17 = .int .i64 ((i + q : Nat) : Int) ∧ q ≤ M - i ∧ Rk a H H2 ∧ Rw H2 a N (shr f (i + q) M)) ?_ ?_
    · simp (maxSteps := 4000000) (disch := omega) only [Zq, evO, vbox, wr, Zeq, if_true, if_false, Nat.reduceEqDiff, Nat.reduceAdd, Nat.reduceLeDiff, Nat.reduceSub, and_self, and_true, true_and, reduceIte, reduceCtorEq, eq_self, implies_true, forall_const, false_implies, imp_self, decide_true, decide_false, fix_nil, fix_cons, t0, t2, t4, t14, t15]
      exact ⟨by rw [show i + (M - i) = M by omega], k1, by rw [show i + (M - i) = M by omega, shr_one]; exact R1⟩
    rintro q T H2 hT ⟨t17, hq, k2, R2⟩
    simp only [fix_nil, fix_cons, Zq, evO, vbox, wr, Zeq, if_true, if_false, Nat.reduceEqDiff, Nat.reduceAdd, Nat.reduceLeDiff, Nat.reduceSub, and_self, and_true, true_and, reduceIte, reduceCtorEq, eq_self, implies_true, forall_const, false_implies, imp_self, decide_true, decide_false, t0, t2, t4, t14, t15] at hT
    obtain ⟨t0, t14⟩ := hT
    by_cases hq0 : 0 < q
    · have wk : IntKind.i64.wrap (((i + q : Nat) : Int) - 1) = ((i + q - 1 : Nat) : Int) := by rw [wrap64 (by omega) (by omega)]; omega
      have i1 := R2.idx hva (by omega : i + q < N)
      have i2 := R2.idx hva (by omega : i + q - 1 < N)
      have l1 := R2.ld hva (by omega : i + q < N)
      have l2 := R2.ld hva (by omega : i + q - 1 < N)
      have e1 := R2.st hva (by omega : i + q < N) (shr f (i + q) M (i + q - 1))
      have R4 := R2.set (i + q) (shr f (i + q) M (i + q - 1))
      have e2 := R4.st hva (by omega : i + q - 1 < N) (shr f (i + q) M (i + q))
      have R5 := R4.set (i + q - 1) (shr f (i + q) M (i + q))
      rw [sw_two, shr_pred (by omega) (by omega)] at R5
      simp (maxSteps := 4000000) (disch := omega) only [Zq, evO, vbox, wr, Zeq, if_true, if_false, Nat.reduceEqDiff, Nat.reduceAdd, Nat.reduceLeDiff, Nat.reduceSub, and_self, and_true, true_and, reduceIte, reduceCtorEq, eq_self, implies_true, forall_const, false_implies, imp_self, decide_true, decide_false, fix_nil, fix_cons, t0, t2, t4, t14, t15, t17, Zfh (by omega : (i : Int) < ((i + q : Nat) : Int))]
      refine G_tame rfl ?_
      simp (maxSteps := 4000000) (disch := omega) only [Zq, evO, vbox, wr, Zeq, if_true, if_false, Nat.reduceEqDiff, Nat.reduceAdd, Nat.reduceLeDiff, Nat.reduceSub, and_self, and_true, true_and, reduceIte, reduceCtorEq, eq_self, implies_true, forall_const, false_implies, imp_self, decide_true, decide_false, fix_nil, fix_cons, t0, t2, t4, t14, t15, t17, wk, i1, i2, l1, l2, e1, e2]
      refine ⟨q - 1, by omega, ?_⟩
      rw [show i + (q - 1) = i + q - 1 by omega]
      exact ⟨rfl, by omega, k2.trans (Rk.set.trans Rk.set), R5⟩
    · obtain rfl : q = 0 := by omega
      rw [Nat.add_zero] at R2
      simp (maxSteps := 4000000) (disch := omega) only [Zq, evO, vbox, wr, Zeq, if_true, if_false, Nat.reduceEqDiff, Nat.reduceAdd, Nat.reduceLeDiff, Nat.reduceSub, and_self, and_true, true_and, reduceIte, reduceCtorEq, eq_self, implies_true, forall_const, false_implies, imp_self, decide_true, decide_false, fix_nil, fix_cons, t0, t2, t4, t14, t15, t17, Zfi (by omega : ¬ (i : Int) < ((i + 0 : Nat) : Int))]
      subst hB
      exact ⟨k2, _, R2, shr_Rl hAi hjM (by omega), mg_right odR hMg hAi hjM hlo hhi⟩
  obtain ⟨y1, y2, y3⟩ := half A B (by omega) (by omega)
  obtain ⟨mid, hmid⟩ : ∃ mid, mid = (A + B) / 2 := ⟨_, rfl⟩
  rw [← hmid] at y3
  have sh0 : abin .shr (.int .u64 ((A + B : Nat) : Int)) (.int .u64 1) = some (.int .u64 (mid : Int)) := by rw [hmid]; exact abin_shr1
  have wm : IntKind.i64.wrap ((mid : Int) + M) = ((mid + M : Nat) : Int) := by rw [wrap64 (by omega) (by omega)]; omega
  obtain ⟨p, hp⟩ : ∃ p, p = mid + M - 1 := ⟨_, rfl⟩
  have wp : IntKind.i64.wrap (((mid + M : Nat) : Int) - 1) = (p : Int) := by rw [wrap64 (by omega) (by omega)]; omega
  refine Run.intro c109 rfl ?_
  simp (maxSteps := 4000000) (disch := omega) only [Zq, evO, vbox, wr, Zeq, if_true, if_false, Nat.reduceEqDiff, Nat.reduceAdd, Nat.reduceLeDiff, Nat.reduceSub, and_self, and_true, true_and, reduceIte, reduceCtorEq, eq_self, implies_true, forall_const, false_implies, imp_self, decide_true, decide_false, x109, w1, Zfm hM1, w2, Zfm hB1, y1, y2, y3, sh0, wm]
  by_cases hMm : (mid : Int) < M
  · have ws : IntKind.i64.wrap (((mid + M : Nat) : Int) - B) = ((mid + M - B : Nat) : Int) := by rw [wrap64 (by omega) (by omega)]; omega
    simp (maxSteps := 4000000) (disch := omega) only [Zq, evO, vbox, wr, Zeq, if_true, if_false, Nat.reduceEqDiff, Nat.reduceAdd, Nat.reduceLeDiff, Nat.reduceSub, and_self, and_true, true_and, reduceIte, reduceCtorEq, eq_self, implies_true, forall_const, false_implies, imp_self, decide_true, decide_false, fix_nil, fix_cons, Zfh hMm, ws, wp]
    refine G_loopF [0, 1, 2, 3, 4, 18, 19, 22] ((mid - (mid + M - B))) (fun k T H1 => ∃ s r : Nat, T 20 = .int .i64 (s : Int) ∧ T 21 = .int .i64 (r : Int) ∧ k = r - s ∧ Rk a H H1 ∧ Rw H1 a N f ∧ Sr ltR p (mid + M - B) (mid) s r f) ?_ ?_
    · simp (maxSteps := 4000000) (disch := omega) only [Zq, evO, vbox, wr, Zeq, if_true, if_false, Nat.reduceEqDiff, Nat.reduceAdd, Nat.reduceLeDiff, Nat.reduceSub, and_self, and_true, true_and, reduceIte, reduceCtorEq, eq_self, implies_true, forall_const, false_implies, imp_self, decide_true, decide_false, fix_nil, fix_cons]
      exact ⟨mid + M - B, mid, rfl, rfl, rfl, Rk.refl _ _, R, ⟨Nat.le_refl _, by omega, Nat.le_refl _, fun h => by omega, fun h => by omega⟩⟩
    rintro k T H1 hT ⟨s, r, t20, t21, hk, k1, R1, S⟩
    simp only [fix_nil, fix_cons, Zq, evO, vbox, wr, Zeq, if_true, if_false, Nat.reduceEqDiff, Nat.reduceAdd, Nat.reduceLeDiff, Nat.reduceSub, and_self, and_true, true_and, reduceIte, reduceCtorEq, eq_self, implies_true, forall_const, false_implies, imp_self, decide_true, decide_false] at hT
    obtain ⟨t0, t1, t2, t3, t4, t18, t19, t22⟩ := hT
    have sa1 := S.a1
    have sa2 := S.a2
    have sa3 := S.a3
    by_cases hlt : s < r
    · obtain ⟨x1, x2, x3⟩ := half s r (by omega) (by omega)
      obtain ⟨c, hcc⟩ : ∃ c, c = (s + r) / 2 := ⟨_, rfl⟩
      rw [← hcc] at x3
      have sh : abin .shr (.int .u64 ((s + r : Nat) : Int)) (.int .u64 1) = some (.int .u64 (c : Int)) := by rw [hcc]; exact abin_shr1
      have wpc : IntKind.i64.wrap ((p : Int) - c) = ((p - c : Nat) : Int) := by rw [wrap64 (by omega) (by omega)]; omega
      have hb : bfR (f c) (f (p - c)) := hMg.x c (p - c) (by omega) (by omega) (by omega) (by omega)
      have ih1 := R1.idx hva (by omega : p - c < N)
      have ia1 := R1.idx hva (by omega : c < N)
      have lh1 := R1.ld hva (by omega : p - c < N)
      have la1 := R1.ld hva (by omega : c < N)
      have tx := fun (y ix : Nat) (hy : y < N) => (Sl.trL (ix := ix) (o := 0) (R1.sl hva) hy)
      have tx1 := fun ix : Nat => tx (p - c) ix (by omega)
      have tx2 := fun ix : Nat => tx c ix (by omega)
      have bl := Sl.blk_lt (R1.sl hva) (by omega : A < N)
      simp (maxSteps := 4000000) (disch := omega) only [Zq, evO, vbox, wr, Zeq, if_true, if_false, Nat.reduceEqDiff, Nat.reduceAdd, Nat.reduceLeDiff, Nat.reduceSub, and_self, and_true, true_and, reduceIte, reduceCtorEq, eq_self, implies_true, forall_const, false_implies, imp_self, decide_true, decide_false, fix_nil, fix_cons, t0, t1, t2, t3, t4, t18, t19, t22, t20, t21, Zfh (by omega : (s : Int) < (r : Int)), x1, x2, x3, sh]
      simp (maxSteps := 4000000) (disch := omega) only [ZD, Zio, Zip, pre_, beq_self_eq_true, Nat.reduceBEq, Zq, evO, vbox, wr, Zeq, if_true, if_false, Nat.reduceEqDiff, Nat.reduceAdd, Nat.reduceLeDiff, Nat.reduceSub, and_self, and_true, true_and, reduceIte, reduceCtorEq, eq_self, implies_true, forall_const, false_implies, imp_self, decide_true, decide_false, fix_nil, fix_cons, t0, t1, t2, t3, t4, t18, t19, t22, t20, t21, G_dreg, x1, x2, x3, sh, wpc, ih1, ia1, lh1, la1, tx1, tx2]
      refine GD_calld_eq (f := 58) (cs := #[]) (vs := [.agg #[.int .i64 (f (p - c)).1, .int .i64 (f (p - c)).2.1, .int .i64 (f (p - c)).2.2.1, .int .i64 (f (p - c)).2.2.2], .agg #[.int .i64 (f c).1, .int .i64 (f c).2.1, .int .i64 (f c).2.2.1, .int .i64 (f c).2.2.2]]) (by simp (maxSteps := 4000000) (disch := omega) only [Zq, evO, vbox, wr, Zeq, if_true, if_false, Nat.reduceEqDiff, Nat.reduceAdd, Nat.reduceLeDiff, Nat.reduceSub, and_self, and_true, true_and, reduceIte, reduceCtorEq, eq_self, implies_true, forall_const, false_implies, imp_self, decide_true, decide_false, fix_nil, fix_cons, t0, t1, t2, t3, t4, t18, t19, t22, t20, t21]) (by simp (maxSteps := 4000000) (disch := omega) only [Zq, evO, vbox, wr, Zeq, if_true, if_false, Nat.reduceEqDiff, Nat.reduceAdd, Nat.reduceLeDiff, Nat.reduceSub, and_self, and_true, true_and, reduceIte, reduceCtorEq, eq_self, implies_true, forall_const, false_implies, imp_self, decide_true, decide_false, fix_nil, fix_cons, t0, t1, t2, t3, t4, t18, t19, t22, t20, t21]) ((r_cmpRun (f (p - c)) (f c) H1).mono ?_)
      rintro _ H3 ⟨k3, rfl⟩
      have R3 := R1.keep k3
      have k13 := k1.trans (Rk.keep k3)
      have wc : IntKind.i64.wrap ((c : Int) + 1) = ((c + 1 : Nat) : Int) := by rw [wrap64 (by omega) (by omega)]; omega
      by_cases hc : cmpZ (f (p - c)).2.2.1 (f c).2.2.1 < 0
      · have hgt := cmpZ_neg.1 hc
        simp (maxSteps := 4000000) (disch := omega) only [ZD, Zio, Zip, pre_, beq_self_eq_true, Nat.reduceBEq, Zq, evO, vbox, wr, Zeq, if_true, if_false, Nat.reduceEqDiff, Nat.reduceAdd, Nat.reduceLeDiff, Nat.reduceSub, and_self, and_true, true_and, reduceIte, reduceCtorEq, eq_self, implies_true, forall_const, false_implies, imp_self, decide_true, decide_false, fix_nil, fix_cons, t0, t1, t2, t3, t4, t18, t19, t22, t20, t21, Zfh hc]
        exact ⟨c - s, by omega, s, c, rfl, rfl, rfl, k13, R3, ⟨sa1, by omega, by omega, S.lo, fun _ => .inl hgt⟩⟩
      · have hle : ¬ (f (p - c)).2.2.1 < (f c).2.2.1 := fun q => hc (cmpZ_neg.2 q)
        simp (maxSteps := 4000000) (disch := omega) only [ZD, Zio, Zip, pre_, beq_self_eq_true, Nat.reduceBEq, Zq, evO, vbox, wr, Zeq, if_true, if_false, Nat.reduceEqDiff, Nat.reduceAdd, Nat.reduceLeDiff, Nat.reduceSub, and_self, and_true, true_and, reduceIte, reduceCtorEq, eq_self, implies_true, forall_const, false_implies, imp_self, decide_true, decide_false, fix_nil, fix_cons, t0, t1, t2, t3, t4, t18, t19, t22, t20, t21, Zfi hc, wc]
        exact ⟨r - (c + 1), by omega, c + 1, r, rfl, rfl, rfl, k13, R3, ⟨by omega, by omega, sa3, fun _ => by
          rw [show c + 1 - 1 = c by omega, show p + 1 - (c + 1) = p - c by omega]
          exact odR.no hb (decide_eq_false hle), S.hi⟩⟩
    obtain rfl : s = r := by omega
    have C : Cutp ltR A M B (mid + M) s f := S.cutA rfl (by omega) (by omega) (by omega) (by omega)
    obtain ⟨e, he⟩ : ∃ e, e = mid + M - s := ⟨_, rfl⟩
    have wn : IntKind.i64.wrap (((mid + M : Nat) : Int) - s) = (e : Int) := by rw [wrap64 (by omega) (by omega)]; omega
    obtain ⟨g, hg⟩ : ∃ g, g = rot f s (M - s) (mid + M - s - M) := ⟨_, rfl⟩
    obtain ⟨hL, hR, hcross⟩ := cut_left odR hMg rfl C g hg
    rw [← he] at hR
    have q1 := C.sa
    have q2 := C.sm
    have q3 := C.em
    have q4 := C.eb
    have hgRl : Rl A B f g := by
      have := rot_Rl (f := f) (s := s) (i := M - s) (j := mid + M - s - M)
      rw [← hg] at this
      exact this.mono q1 (by omega)
    simp (maxSteps := 4000000) (disch := omega) only [Zq, evO, vbox, wr, Zeq, if_true, if_false, Nat.reduceEqDiff, Nat.reduceAdd, Nat.reduceLeDiff, Nat.reduceSub, and_self, and_true, true_and, reduceIte, reduceCtorEq, eq_self, implies_true, forall_const, false_implies, imp_self, decide_true, decide_false, fix_nil, fix_cons, t0, t1, t2, t3, t4, t18, t19, t22, t20, t21, Zfi (by omega : ¬ (s : Int) < (s : Int)), wn]
    have b1 : s < M := by omega
    by_cases b2 : M < e
    rotate_left
    · obtain ⟨R5, k5⟩ := And.intro R1 k1
      have ef : f = g := by rw [hg, show mid + M - s - M = 0 by omega, rot_j0]
      rw [ef] at R5
      try simp (maxSteps := 4000000) (disch := omega) only [Zq, evO, vbox, wr, Zeq, if_true, if_false, Nat.reduceEqDiff, Nat.reduceAdd, Nat.reduceLeDiff, Nat.reduceSub, and_self, and_true, true_and, reduceIte, reduceCtorEq, eq_self, implies_true, forall_const, false_implies, imp_self, decide_true, decide_false, fix_nil, fix_cons, t0, t1, t2, t3, t4, t18, t19, t22, t20, t21, Zfh (by omega : (s : Int) < (M : Int)), Zfi (by omega : ¬ (M : Int) < (e : Int))]
      have c1 : A < s := by omega
      have c2 : ¬ s < mid := by omega
      have l1 : Rl A mid g g := Rl.refl _ _ _
      have l2 : Srt ltR A mid g := mg_triv hL (by omega)
      obtain ⟨ga, hg1⟩ : ∃ ga, ga = g := ⟨_, rfl⟩
      rw [← hg1] at R5
      have l1 : Rl A mid g ga := by rw [hg1]; exact l1
      have l2 : Srt ltR A mid ga := by rw [hg1]; exact l2
      try simp (maxSteps := 4000000) (disch := omega) only [Zq, evO, vbox, wr, Zeq, if_true, if_false, Nat.reduceEqDiff, Nat.reduceAdd, Nat.reduceLeDiff, Nat.reduceSub, and_self, and_true, true_and, reduceIte, reduceCtorEq, eq_self, implies_true, forall_const, false_implies, imp_self, decide_true, decide_false, fix_nil, fix_cons, t0, t1, t2, t3, t4, t18, t19, t22, t20, t21, Zfh (by omega : (A : Int) < (s : Int)), Zfi (by omega : ¬ (s : Int) < (mid : Int))]
      have hRm : Mg ltR bfR mid e B ga := hR.congr (fun k q1 q2 => l1.out k (by omega)) (by omega) (by omega)
      have k7 := k5
      have d1 : mid < e := by omega
      have d2 : e < B := by omega
      try simp (maxSteps := 4000000) (disch := omega) only [Zq, evO, vbox, wr, Zeq, if_true, if_false, Nat.reduceEqDiff, Nat.reduceAdd, Nat.reduceLeDiff, Nat.reduceSub, and_self, and_true, true_and, reduceIte, reduceCtorEq, eq_self, implies_true, forall_const, false_implies, imp_self, decide_true, decide_false, fix_nil, fix_cons, t0, t1, t2, t3, t4, t18, t19, t22, t20, t21, Zfh (by omega : (mid : Int) < (e : Int)), Zfh (by omega : (e : Int) < (B : Int))]
      refine GO_call ((ih (A := mid) (M := e) (B := B) (by omega) R5 d1 d2 hBN hRm).mono ?_)
      rintro _ H9 ⟨k9, ⟨gz, R9, r1, r2⟩, rfl⟩
      simp (maxSteps := 4000000) (disch := omega) only [Zq, evO, vbox, wr, Zeq, if_true, if_false, Nat.reduceEqDiff, Nat.reduceAdd, Nat.reduceLeDiff, Nat.reduceSub, and_self, and_true, true_and, reduceIte, reduceCtorEq, eq_self, implies_true, forall_const, false_implies, imp_self, decide_true, decide_false, fix_nil, fix_cons, t0, t1, t2, t3, t4, t18, t19, t22, t20, t21]
      exact ⟨k7.trans k9, gz, R9, sm_end hgRl hcross (by omega) (by omega) l1 l2 r1 r2⟩
    try simp (maxSteps := 4000000) (disch := omega) only [Zq, evO, vbox, wr, Zeq, if_true, if_false, Nat.reduceEqDiff, Nat.reduceAdd, Nat.reduceLeDiff, Nat.reduceSub, and_self, and_true, true_and, reduceIte, reduceCtorEq, eq_self, implies_true, forall_const, false_implies, imp_self, decide_true, decide_false, fix_nil, fix_cons, t0, t1, t2, t3, t4, t18, t19, t22, t20, t21, Zfh (by omega : (s : Int) < (M : Int)), Zfh (by omega : (M : Int) < (e : Int))]
    refine GO_call ((r_rotate R1 hva (s := s) (m := M) (e := e) b1 b2 (by omega) hN).mono ?_)
    rintro _ H5 ⟨k5', R5, rfl⟩
    have eg : rot f s (M - s) (e - M) = g := by rw [hg, he]
    rw [eg] at R5
    have k5 := k1.trans k5'
    simp (maxSteps := 4000000) (disch := omega) only [Zq, evO, vbox, wr, Zeq, if_true, if_false, Nat.reduceEqDiff, Nat.reduceAdd, Nat.reduceLeDiff, Nat.reduceSub, and_self, and_true, true_and, reduceIte, reduceCtorEq, eq_self, implies_true, forall_const, false_implies, imp_self, decide_true, decide_false, fix_nil, fix_cons, t0, t1, t2, t3, t4, t18, t19, t22, t20, t21]
    by_cases c1 : A < s
    rotate_left
    · have l1 : Rl A mid g g := Rl.refl _ _ _
      have l2 : Srt ltR A mid g := mg_triv hL (by omega)
      obtain ⟨ga, hg1⟩ : ∃ ga, ga = g := ⟨_, rfl⟩
      rw [← hg1] at R5
      have l1 : Rl A mid g ga := by rw [hg1]; exact l1
      have l2 : Srt ltR A mid ga := by rw [hg1]; exact l2
      try simp (maxSteps := 4000000) (disch := omega) only [Zq, evO, vbox, wr, Zeq, if_true, if_false, Nat.reduceEqDiff, Nat.reduceAdd, Nat.reduceLeDiff, Nat.reduceSub, and_self, and_true, true_and, reduceIte, reduceCtorEq, eq_self, implies_true, forall_const, false_implies, imp_self, decide_true, decide_false, fix_nil, fix_cons, t0, t1, t2, t3, t4, t18, t19, t22, t20, t21, Zfi (by omega : ¬ (A : Int) < (s : Int))]
      have hRm : Mg ltR bfR mid e B ga := hR.congr (fun k q1 q2 => l1.out k (by omega)) (by omega) (by omega)
      have k7 := k5
      have d1 : mid < e := by omega
      have d2 : ¬ e < B := by omega
      try simp (maxSteps := 4000000) (disch := omega) only [Zq, evO, vbox, wr, Zeq, if_true, if_false, Nat.reduceEqDiff, Nat.reduceAdd, Nat.reduceLeDiff, Nat.reduceSub, and_self, and_true, true_and, reduceIte, reduceCtorEq, eq_self, implies_true, forall_const, false_implies, imp_self, decide_true, decide_false, fix_nil, fix_cons, t0, t1, t2, t3, t4, t18, t19, t22, t20, t21, Zfh (by omega : (mid : Int) < (e : Int)), Zfi (by omega : ¬ (e : Int) < (B : Int))]
      exact ⟨k7, ga, R5, sm_end hgRl hcross (by omega) (by omega) l1 l2 (Rl.refl _ _ _) (mg_triv hRm (by omega))⟩
    have c2 : s < mid := by omega
    try simp (maxSteps := 4000000) (disch := omega) only [Zq, evO, vbox, wr, Zeq, if_true, if_false, Nat.reduceEqDiff, Nat.reduceAdd, Nat.reduceLeDiff, Nat.reduceSub, and_self, and_true, true_and, reduceIte, reduceCtorEq, eq_self, implies_true, forall_const, false_implies, imp_self, decide_true, decide_false, fix_nil, fix_cons, t0, t1, t2, t3, t4, t18, t19, t22, t20, t21, Zfh (by omega : (A : Int) < (s : Int)), Zfh (by omega : (s : Int) < (mid : Int))]
    refine GO_call ((ih (A := A) (M := s) (B := mid) (by omega) R5 c1 c2 (by omega) hL).mono ?_)
    rintro _ H6 ⟨k6, ⟨ga, R6, l1, l2⟩, rfl⟩
    simp (maxSteps := 4000000) (disch := omega) only [Zq, evO, vbox, wr, Zeq, if_true, if_false, Nat.reduceEqDiff, Nat.reduceAdd, Nat.reduceLeDiff, Nat.reduceSub, and_self, and_true, true_and, reduceIte, reduceCtorEq, eq_self, implies_true, forall_const, false_implies, imp_self, decide_true, decide_false, fix_nil, fix_cons, t0, t1, t2, t3, t4, t18, t19, t22, t20, t21]
    have hRm : Mg ltR bfR mid e B ga := hR.congr (fun k q1 q2 => l1.out k (by omega)) (by omega) (by omega)
    have k7 := (k5.trans k6)
    have d1 : mid < e := by omega
    by_cases d2 : e < B
    rotate_left
    · try simp (maxSteps := 4000000) (disch := omega) only [Zq, evO, vbox, wr, Zeq, if_true, if_false, Nat.reduceEqDiff, Nat.reduceAdd, Nat.reduceLeDiff, Nat.reduceSub, and_self, and_true, true_and, reduceIte, reduceCtorEq, eq_self, implies_true, forall_const, false_implies, imp_self, decide_true, decide_false, fix_nil, fix_cons, t0, t1, t2, t3, t4, t18, t19, t22, t20, t21, Zfh (by omega : (mid : Int) < (e : Int)), Zfi (by omega : ¬ (e : Int) < (B : Int))]
      exact ⟨k7, ga, R6, sm_end hgRl hcross (by omega) (by omega) l1 l2 (Rl.refl _ _ _) (mg_triv hRm (by omega))⟩
    try simp (maxSteps := 4000000) (disch := omega) only [Zq, evO, vbox, wr, Zeq, if_true, if_false, Nat.reduceEqDiff, Nat.reduceAdd, Nat.reduceLeDiff, Nat.reduceSub, and_self, and_true, true_and, reduceIte, reduceCtorEq, eq_self, implies_true, forall_const, false_implies, imp_self, decide_true, decide_false, fix_nil, fix_cons, t0, t1, t2, t3, t4, t18, t19, t22, t20, t21, Zfh (by omega : (mid : Int) < (e : Int)), Zfh (by omega : (e : Int) < (B : Int))]
    refine GO_call ((ih (A := mid) (M := e) (B := B) (by omega) R6 d1 d2 hBN hRm).mono ?_)
    rintro _ H9 ⟨k9, ⟨gz, R9, r1, r2⟩, rfl⟩
    simp (maxSteps := 4000000) (disch := omega) only [Zq, evO, vbox, wr, Zeq, if_true, if_false, Nat.reduceEqDiff, Nat.reduceAdd, Nat.reduceLeDiff, Nat.reduceSub, and_self, and_true, true_and, reduceIte, reduceCtorEq, eq_self, implies_true, forall_const, false_implies, imp_self, decide_true, decide_false, fix_nil, fix_cons, t0, t1, t2, t3, t4, t18, t19, t22, t20, t21]
    exact ⟨k7.trans k9, gz, R9, sm_end hgRl hcross (by omega) (by omega) l1 l2 r1 r2⟩
  · simp (maxSteps := 4000000) (disch := omega) only [Zq, evO, vbox, wr, Zeq, if_true, if_false, Nat.reduceEqDiff, Nat.reduceAdd, Nat.reduceLeDiff, Nat.reduceSub, and_self, and_true, true_and, reduceIte, reduceCtorEq, eq_self, implies_true, forall_const, false_implies, imp_self, decide_true, decide_false, fix_nil, fix_cons, Zfi hMm, wp]
    refine G_loopF [0, 1, 2, 3, 4, 18, 19, 22] ((M - (A))) (fun k T H1 => ∃ s r : Nat, T 20 = .int .i64 (s : Int) ∧ T 21 = .int .i64 (r : Int) ∧ k = r - s ∧ Rk a H H1 ∧ Rw H1 a N f ∧ Sr ltR p (A) (M) s r f) ?_ ?_
    · simp (maxSteps := 4000000) (disch := omega) only [Zq, evO, vbox, wr, Zeq, if_true, if_false, Nat.reduceEqDiff, Nat.reduceAdd, Nat.reduceLeDiff, Nat.reduceSub, and_self, and_true, true_and, reduceIte, reduceCtorEq, eq_self, implies_true, forall_const, false_implies, imp_self, decide_true, decide_false, fix_nil, fix_cons]
      exact ⟨A, M, rfl, rfl, rfl, Rk.refl _ _, R, ⟨Nat.le_refl _, by omega, Nat.le_refl _, fun h => by omega, fun h => by omega⟩⟩
    rintro k T H1 hT ⟨s, r, t20, t21, hk, k1, R1, S⟩
    simp only [fix_nil, fix_cons, Zq, evO, vbox, wr, Zeq, if_true, if_false, Nat.reduceEqDiff, Nat.reduceAdd, Nat.reduceLeDiff, Nat.reduceSub, and_self, and_true, true_and, reduceIte, reduceCtorEq, eq_self, implies_true, forall_const, false_implies, imp_self, decide_true, decide_false] at hT
    obtain ⟨t0, t1, t2, t3, t4, t18, t19, t22⟩ := hT
    have sa1 := S.a1
    have sa2 := S.a2
    have sa3 := S.a3
    by_cases hlt : s < r
    · obtain ⟨x1, x2, x3⟩ := half s r (by omega) (by omega)
      obtain ⟨c, hcc⟩ : ∃ c, c = (s + r) / 2 := ⟨_, rfl⟩
      rw [← hcc] at x3
      have sh : abin .shr (.int .u64 ((s + r : Nat) : Int)) (.int .u64 1) = some (.int .u64 (c : Int)) := by rw [hcc]; exact abin_shr1
      have wpc : IntKind.i64.wrap ((p : Int) - c) = ((p - c : Nat) : Int) := by rw [wrap64 (by omega) (by omega)]; omega
      have hb : bfR (f c) (f (p - c)) := hMg.x c (p - c) (by omega) (by omega) (by omega) (by omega)
      have ih1 := R1.idx hva (by omega : p - c < N)
      have ia1 := R1.idx hva (by omega : c < N)
      have lh1 := R1.ld hva (by omega : p - c < N)
      have la1 := R1.ld hva (by omega : c < N)
      have tx := fun (y ix : Nat) (hy : y < N) => (Sl.trL (ix := ix) (o := 0) (R1.sl hva) hy)
      have tx1 := fun ix : Nat => tx (p - c) ix (by omega)
      have tx2 := fun ix : Nat => tx c ix (by omega)
      have bl := Sl.blk_lt (R1.sl hva) (by omega : A < N)
      simp (maxSteps := 4000000) (disch := omega) only [Zq, evO, vbox, wr, Zeq, if_true, if_false, Nat.reduceEqDiff, Nat.reduceAdd, Nat.reduceLeDiff, Nat.reduceSub, and_self, and_true, true_and, reduceIte, reduceCtorEq, eq_self, implies_true, forall_const, false_implies, imp_self, decide_true, decide_false, fix_nil, fix_cons, t0, t1, t2, t3, t4, t18, t19, t22, t20, t21, Zfh (by omega : (s : Int) < (r : Int)), x1, x2, x3, sh]
      simp (maxSteps := 4000000) (disch := omega) only [ZD, Zio, Zip, pre_, beq_self_eq_true, Nat.reduceBEq, Zq, evO, vbox, wr, Zeq, if_true, if_false, Nat.reduceEqDiff, Nat.reduceAdd, Nat.reduceLeDiff, Nat.reduceSub, and_self, and_true, true_and, reduceIte, reduceCtorEq, eq_self, implies_true, forall_const, false_implies, imp_self, decide_true, decide_false, fix_nil, fix_cons, t0, t1, t2, t3, t4, t18, t19, t22, t20, t21, G_dreg, x1, x2, x3, sh, wpc, ih1, ia1, lh1, la1, tx1, tx2]
      refine GD_calld_eq (f := 58) (cs := #[]) (vs := [.agg #[.int .i64 (f (p - c)).1, .int .i64 (f (p - c)).2.1, .int .i64 (f (p - c)).2.2.1, .int .i64 (f (p - c)).2.2.2], .agg #[.int .i64 (f c).1, .int .i64 (f c).2.1, .int .i64 (f c).2.2.1, .int .i64 (f c).2.2.2]]) (by simp (maxSteps := 4000000) (disch := omega) only [Zq, evO, vbox, wr, Zeq, if_true, if_false, Nat.reduceEqDiff, Nat.reduceAdd, Nat.reduceLeDiff, Nat.reduceSub, and_self, and_true, true_and, reduceIte, reduceCtorEq, eq_self, implies_true, forall_const, false_implies, imp_self, decide_true, decide_false, fix_nil, fix_cons, t0, t1, t2, t3, t4, t18, t19, t22, t20, t21]) (by simp (maxSteps := 4000000) (disch := omega) only [Zq, evO, vbox, wr, Zeq, if_true, if_false, Nat.reduceEqDiff, Nat.reduceAdd, Nat.reduceLeDiff, Nat.reduceSub, and_self, and_true, true_and, reduceIte, reduceCtorEq, eq_self, implies_true, forall_const, false_implies, imp_self, decide_true, decide_false, fix_nil, fix_cons, t0, t1, t2, t3, t4, t18, t19, t22, t20, t21]) ((r_cmpRun (f (p - c)) (f c) H1).mono ?_)
      rintro _ H3 ⟨k3, rfl⟩
      have R3 := R1.keep k3
      have k13 := k1.trans (Rk.keep k3)
      have wc : IntKind.i64.wrap ((c : Int) + 1) = ((c + 1 : Nat) : Int) := by rw [wrap64 (by omega) (by omega)]; omega
      by_cases hc : cmpZ (f (p - c)).2.2.1 (f c).2.2.1 < 0
      · have hgt := cmpZ_neg.1 hc
        simp (maxSteps := 4000000) (disch := omega) only [ZD, Zio, Zip, pre_, beq_self_eq_true, Nat.reduceBEq, Zq, evO, vbox, wr, Zeq, if_true, if_false, Nat.reduceEqDiff, Nat.reduceAdd, Nat.reduceLeDiff, Nat.reduceSub, and_self, and_true, true_and, reduceIte, reduceCtorEq, eq_self, implies_true, forall_const, false_implies, imp_self, decide_true, decide_false, fix_nil, fix_cons, t0, t1, t2, t3, t4, t18, t19, t22, t20, t21, Zfh hc]
        exact ⟨c - s, by omega, s, c, rfl, rfl, rfl, k13, R3, ⟨sa1, by omega, by omega, S.lo, fun _ => .inl hgt⟩⟩
      · have hle : ¬ (f (p - c)).2.2.1 < (f c).2.2.1 := fun q => hc (cmpZ_neg.2 q)
        simp (maxSteps := 4000000) (disch := omega) only [ZD, Zio, Zip, pre_, beq_self_eq_true, Nat.reduceBEq, Zq, evO, vbox, wr, Zeq, if_true, if_false, Nat.reduceEqDiff, Nat.reduceAdd, Nat.reduceLeDiff, Nat.reduceSub, and_self, and_true, true_and, reduceIte, reduceCtorEq, eq_self, implies_true, forall_const, false_implies, imp_self, decide_true, decide_false, fix_nil, fix_cons, t0, t1, t2, t3, t4, t18, t19, t22, t20, t21, Zfi hc, wc]
        exact ⟨r - (c + 1), by omega, c + 1, r, rfl, rfl, rfl, k13, R3, ⟨by omega, by omega, sa3, fun _ => by
          rw [show c + 1 - 1 = c by omega, show p + 1 - (c + 1) = p - c by omega]
          exact odR.no hb (decide_eq_false hle), S.hi⟩⟩
    obtain rfl : s = r := by omega
    have C : Cutp ltR A M B (mid + M) s f := S.cutB rfl (by omega) (by omega) (by omega)
    obtain ⟨e, he⟩ : ∃ e, e = mid + M - s := ⟨_, rfl⟩
    have wn : IntKind.i64.wrap (((mid + M : Nat) : Int) - s) = (e : Int) := by rw [wrap64 (by omega) (by omega)]; omega
    obtain ⟨g, hg⟩ : ∃ g, g = rot f s (M - s) (mid + M - s - M) := ⟨_, rfl⟩
    obtain ⟨hL, hR, hcross⟩ := cut_left odR hMg rfl C g hg
    rw [← he] at hR
    have q1 := C.sa
    have q2 := C.sm
    have q3 := C.em
    have q4 := C.eb
    have hgRl : Rl A B f g := by
      have := rot_Rl (f := f) (s := s) (i := M - s) (j := mid + M - s - M)
      rw [← hg] at this
      exact this.mono q1 (by omega)
    simp (maxSteps := 4000000) (disch := omega) only [Zq, evO, vbox, wr, Zeq, if_true, if_false, Nat.reduceEqDiff, Nat.reduceAdd, Nat.reduceLeDiff, Nat.reduceSub, and_self, and_true, true_and, reduceIte, reduceCtorEq, eq_self, implies_true, forall_const, false_implies, imp_self, decide_true, decide_false, fix_nil, fix_cons, t0, t1, t2, t3, t4, t18, t19, t22, t20, t21, Zfi (by omega : ¬ (s : Int) < (s : Int)), wn]
    by_cases b1 : s < M
    rotate_left
    · obtain ⟨R5, k5⟩ := And.intro R1 k1
      have ef : f = g := by rw [hg, show M - s = 0 by omega, rot_i0]
      rw [ef] at R5
      try simp (maxSteps := 4000000) (disch := omega) only [Zq, evO, vbox, wr, Zeq, if_true, if_false, Nat.reduceEqDiff, Nat.reduceAdd, Nat.reduceLeDiff, Nat.reduceSub, and_self, and_true, true_and, reduceIte, reduceCtorEq, eq_self, implies_true, forall_const, false_implies, imp_self, decide_true, decide_false, fix_nil, fix_cons, t0, t1, t2, t3, t4, t18, t19, t22, t20, t21, Zfi (by omega : ¬ (s : Int) < (M : Int))]
      have c1 : A < s := by omega
      by_cases c2 : s < mid
      rotate_left
      · have l1 : Rl A mid g g := Rl.refl _ _ _
        have l2 : Srt ltR A mid g := mg_triv hL (by omega)
        obtain ⟨ga, hg1⟩ : ∃ ga, ga = g := ⟨_, rfl⟩
        rw [← hg1] at R5
        have l1 : Rl A mid g ga := by rw [hg1]; exact l1
        have l2 : Srt ltR A mid ga := by rw [hg1]; exact l2
        try simp (maxSteps := 4000000) (disch := omega) only [Zq, evO, vbox, wr, Zeq, if_true, if_false, Nat.reduceEqDiff, Nat.reduceAdd, Nat.reduceLeDiff, Nat.reduceSub, and_self, and_true, true_and, reduceIte, reduceCtorEq, eq_self, implies_true, forall_const, false_implies, imp_self, decide_true, decide_false, fix_nil, fix_cons, t0, t1, t2, t3, t4, t18, t19, t22, t20, t21, Zfh (by omega : (A : Int) < (s : Int)), Zfi (by omega : ¬ (s : Int) < (mid : Int))]
        have hRm : Mg ltR bfR mid e B ga := hR.congr (fun k q1 q2 => l1.out k (by omega)) (by omega) (by omega)
        have k7 := k5
        have d1 : ¬ mid < e := by omega
        try simp (maxSteps := 4000000) (disch := omega) only [Zq, evO, vbox, wr, Zeq, if_true, if_false, Nat.reduceEqDiff, Nat.reduceAdd, Nat.reduceLeDiff, Nat.reduceSub, and_self, and_true, true_and, reduceIte, reduceCtorEq, eq_self, implies_true, forall_const, false_implies, imp_self, decide_true, decide_false, fix_nil, fix_cons, t0, t1, t2, t3, t4, t18, t19, t22, t20, t21, Zfi (by omega : ¬ (mid : Int) < (e : Int))]
        exact ⟨k7, ga, R5, sm_end hgRl hcross (by omega) (by omega) l1 l2 (Rl.refl _ _ _) (mg_triv hRm (by omega))⟩
      try simp (maxSteps := 4000000) (disch := omega) only [Zq, evO, vbox, wr, Zeq, if_true, if_false, Nat.reduceEqDiff, Nat.reduceAdd, Nat.reduceLeDiff, Nat.reduceSub, and_self, and_true, true_and, reduceIte, reduceCtorEq, eq_self, implies_true, forall_const, false_implies, imp_self, decide_true, decide_false, fix_nil, fix_cons, t0, t1, t2, t3, t4, t18, t19, t22, t20, t21, Zfh (by omega : (A : Int) < (s : Int)), Zfh (by omega : (s : Int) < (mid : Int))]
      refine GO_call ((ih (A := A) (M := s) (B := mid) (by omega) R5 c1 c2 (by omega) hL).mono ?_)
      rintro _ H6 ⟨k6, ⟨ga, R6, l1, l2⟩, rfl⟩
      simp (maxSteps := 4000000) (disch := omega) only [Zq, evO, vbox, wr, Zeq, if_true, if_false, Nat.reduceEqDiff, Nat.reduceAdd, Nat.reduceLeDiff, Nat.reduceSub, and_self, and_true, true_and, reduceIte, reduceCtorEq, eq_self, implies_true, forall_const, false_implies, imp_self, decide_true, decide_false, fix_nil, fix_cons, t0, t1, t2, t3, t4, t18, t19, t22, t20, t21]
      have hRm : Mg ltR bfR mid e B ga := hR.congr (fun k q1 q2 => l1.out k (by omega)) (by omega) (by omega)
      have k7 := (k5.trans k6)
      have d1 : ¬ mid < e := by omega
      try simp (maxSteps := 4000000) (disch := omega) only [Zq, evO, vbox, wr, Zeq, if_true, if_false, Nat.reduceEqDiff, Nat.reduceAdd, Nat.reduceLeDiff, Nat.reduceSub, and_self, and_true, true_and, reduceIte, reduceCtorEq, eq_self, implies_true, forall_const, false_implies, imp_self, decide_true, decide_false, fix_nil, fix_cons, t0, t1, t2, t3, t4, t18, t19, t22, t20, t21, Zfi (by omega : ¬ (mid : Int) < (e : Int))]
      exact ⟨k7, ga, R6, sm_end hgRl hcross (by omega) (by omega) l1 l2 (Rl.refl _ _ _) (mg_triv hRm (by omega))⟩
    have b2 : M < e := by omega
    try simp (maxSteps := 4000000) (disch := omega) only [Zq, evO, vbox, wr, Zeq, if_true, if_false, Nat.reduceEqDiff, Nat.reduceAdd, Nat.reduceLeDiff, Nat.reduceSub, and_self, and_true, true_and, reduceIte, reduceCtorEq, eq_self, implies_true, forall_const, false_implies, imp_self, decide_true, decide_false, fix_nil, fix_cons, t0, t1, t2, t3, t4, t18, t19, t22, t20, t21, Zfh (by omega : (s : Int) < (M : Int)), Zfh (by omega : (M : Int) < (e : Int))]
    refine GO_call ((r_rotate R1 hva (s := s) (m := M) (e := e) b1 b2 (by omega) hN).mono ?_)
    rintro _ H5 ⟨k5', R5, rfl⟩
    have eg : rot f s (M - s) (e - M) = g := by rw [hg, he]
    rw [eg] at R5
    have k5 := k1.trans k5'
    simp (maxSteps := 4000000) (disch := omega) only [Zq, evO, vbox, wr, Zeq, if_true, if_false, Nat.reduceEqDiff, Nat.reduceAdd, Nat.reduceLeDiff, Nat.reduceSub, and_self, and_true, true_and, reduceIte, reduceCtorEq, eq_self, implies_true, forall_const, false_implies, imp_self, decide_true, decide_false, fix_nil, fix_cons, t0, t1, t2, t3, t4, t18, t19, t22, t20, t21]
    by_cases c1 : A < s
    rotate_left
    · have l1 : Rl A mid g g := Rl.refl _ _ _
      have l2 : Srt ltR A mid g := mg_triv hL (by omega)
      obtain ⟨ga, hg1⟩ : ∃ ga, ga = g := ⟨_, rfl⟩
      rw [← hg1] at R5
      have l1 : Rl A mid g ga := by rw [hg1]; exact l1
      have l2 : Srt ltR A mid ga := by rw [hg1]; exact l2
      try simp (maxSteps := 4000000) (disch := omega) only [Zq, evO, vbox, wr, Zeq, if_true, if_false, Nat.reduceEqDiff, Nat.reduceAdd, Nat.reduceLeDiff, Nat.reduceSub, and_self, and_true, true_and, reduceIte, reduceCtorEq, eq_self, implies_true, forall_const, false_implies, imp_self, decide_true, decide_false, fix_nil, fix_cons, t0, t1, t2, t3, t4, t18, t19, t22, t20, t21, Zfi (by omega : ¬ (A : Int) < (s : Int))]
      have hRm : Mg ltR bfR mid e B ga := hR.congr (fun k q1 q2 => l1.out k (by omega)) (by omega) (by omega)
      have k7 := k5
      have d1 : mid < e := by omega
      by_cases d2 : e < B
      rotate_left
      · try simp (maxSteps := 4000000) (disch := omega) only [Zq, evO, vbox, wr, Zeq, if_true, if_false, Nat.reduceEqDiff, Nat.reduceAdd, Nat.reduceLeDiff, Nat.reduceSub, and_self, and_true, true_and, reduceIte, reduceCtorEq, eq_self, implies_true, forall_const, false_implies, imp_self, decide_true, decide_false, fix_nil, fix_cons, t0, t1, t2, t3, t4, t18, t19, t22, t20, t21, Zfh (by omega : (mid : Int) < (e : Int)), Zfi (by omega : ¬ (e : Int) < (B : Int))]
        exact ⟨k7, ga, R5, sm_end hgRl hcross (by omega) (by omega) l1 l2 (Rl.refl _ _ _) (mg_triv hRm (by omega))⟩
      try simp (maxSteps := 4000000) (disch := omega) only [Zq, evO, vbox, wr, Zeq, if_true, if_false, Nat.reduceEqDiff, Nat.reduceAdd, Nat.reduceLeDiff, Nat.reduceSub, and_self, and_true, true_and, reduceIte, reduceCtorEq, eq_self, implies_true, forall_const, false_implies, imp_self, decide_true, decide_false, fix_nil, fix_cons, t0, t1, t2, t3, t4, t18, t19, t22, t20, t21, Zfh (by omega : (mid : Int) < (e : Int)), Zfh (by omega : (e : Int) < (B : Int))]
      refine GO_call ((ih (A := mid) (M := e) (B := B) (by omega) R5 d1 d2 hBN hRm).mono ?_)
      rintro _ H9 ⟨k9, ⟨gz, R9, r1, r2⟩, rfl⟩
      simp (maxSteps := 4000000) (disch := omega) only [Zq, evO, vbox, wr, Zeq, if_true, if_false, Nat.reduceEqDiff, Nat.reduceAdd, Nat.reduceLeDiff, Nat.reduceSub, and_self, and_true, true_and, reduceIte, reduceCtorEq, eq_self, implies_true, forall_const, false_implies, imp_self, decide_true, decide_false, fix_nil, fix_cons, t0, t1, t2, t3, t4, t18, t19, t22, t20, t21]
      exact ⟨k7.trans k9, gz, R9, sm_end hgRl hcross (by omega) (by omega) l1 l2 r1 r2⟩
    have c2 : s < mid := by omega
    try simp (maxSteps := 4000000) (disch := omega) only [Zq, evO, vbox, wr, Zeq, if_true, if_false, Nat.reduceEqDiff, Nat.reduceAdd, Nat.reduceLeDiff, Nat.reduceSub, and_self, and_true, true_and, reduceIte, reduceCtorEq, eq_self, implies_true, forall_const, false_implies, imp_self, decide_true, decide_false, fix_nil, fix_cons, t0, t1, t2, t3, t4, t18, t19, t22, t20, t21, Zfh (by omega : (A : Int) < (s : Int)), Zfh (by omega : (s : Int) < (mid : Int))]
    refine GO_call ((ih (A := A) (M := s) (B := mid) (by omega) R5 c1 c2 (by omega) hL).mono ?_)
    rintro _ H6 ⟨k6, ⟨ga, R6, l1, l2⟩, rfl⟩
    simp (maxSteps := 4000000) (disch := omega) only [Zq, evO, vbox, wr, Zeq, if_true, if_false, Nat.reduceEqDiff, Nat.reduceAdd, Nat.reduceLeDiff, Nat.reduceSub, and_self, and_true, true_and, reduceIte, reduceCtorEq, eq_self, implies_true, forall_const, false_implies, imp_self, decide_true, decide_false, fix_nil, fix_cons, t0, t1, t2, t3, t4, t18, t19, t22, t20, t21]
    have hRm : Mg ltR bfR mid e B ga := hR.congr (fun k q1 q2 => l1.out k (by omega)) (by omega) (by omega)
    have k7 := (k5.trans k6)
    have d1 : mid < e := by omega
    have d2 : e < B := by omega
    try simp (maxSteps := 4000000) (disch := omega) only [Zq, evO, vbox, wr, Zeq, if_true, if_false, Nat.reduceEqDiff, Nat.reduceAdd, Nat.reduceLeDiff, Nat.reduceSub, and_self, and_true, true_and, reduceIte, reduceCtorEq, eq_self, implies_true, forall_const, false_implies, imp_self, decide_true, decide_false, fix_nil, fix_cons, t0, t1, t2, t3, t4, t18, t19, t22, t20, t21, Zfh (by omega : (mid : Int) < (e : Int)), Zfh (by omega : (e : Int) < (B : Int))]
    refine GO_call ((ih (A := mid) (M := e) (B := B) (by omega) R6 d1 d2 hBN hRm).mono ?_)
    rintro _ H9 ⟨k9, ⟨gz, R9, r1, r2⟩, rfl⟩
    simp (maxSteps := 4000000) (disch := omega) only [Zq, evO, vbox, wr, Zeq, if_true, if_false, Nat.reduceEqDiff, Nat.reduceAdd, Nat.reduceLeDiff, Nat.reduceSub, and_self, and_true, true_and, reduceIte, reduceCtorEq, eq_self, implies_true, forall_const, false_implies, imp_self, decide_true, decide_false, fix_nil, fix_cons, t0, t1, t2, t3, t4, t18, t19, t22, t20, t21]
    exact ⟨k7.trans k9, gz, R9, sm_end hgRl hcross (by omega) (by omega) l1 l2 r1 r2⟩
end
end Go.Proofs.Ytjjglonmaajjoaa.AX
