/- The stable sort: blocks by insertion. No condition beyond each law's own; of the program: the functions' forms. -/
import Derived.Test.YtjjglonmaajjoaaSrw
namespace Go.Proofs.Ytjjglonmaajjoaa.AX
open Go
set_option maxRecDepth 10000
set_option maxHeartbeats 4000000
set_option linter.unusedSimpArgs false
set_option linter.unusedVariables false
theorem GD_calld_eq {P : Program} {pre : List (List Nat)} {ix : Nat} {tr : List Tr} {d : Option Nat} {x : XArg} {f : FuncId} {cs : Array Value} {args : List XArg} {vs : List Value} {os : List XO} {ks : List Fr} {Q : XE → Tm → Heap → Prop} {T : Tm} {H : Heap} (e : ev T x = .func (.func f) #[] cs) (e2 : args.map (ev T) ++ cs.toList = vs) (h : Run P f vs H fun v H' => GD (CR P) pre (ix + 1) os (.E ix H H' :: tr) ks Q (put T d v) H') : GD (CR P) pre ix (⟨d, .calld x args, none⟩ :: os) tr ks Q T H := by
  subst e2
  exact GD_calld e h
section
variable {H : Heap} {a N : Nat} {f : Nat → Rnn} {va : Value}
theorem r_insertion (R : Rw H a N f) (hva : va = .slice (some ⟨a, 0, none⟩) N 4) {A B : Nat} (h1 : A ≤ B) (h2 : B ≤ N) (hN : N ≤ 1000000) (hbf : ∀ i j, A ≤ i → i < j → j < B → bfR (f i) (f j)) : Run Try.prog 108 [va, .int .i64 (A : Int), .int .i64 (B : Int), cmpV] H fun r H' => Rk a H H' ∧ (∃ g, Rw H' a N g ∧ Rl A B f g ∧ Srt ltR A B g) ∧ r = .tuple #[] := by
  have w1 : IntKind.i64.wrap ((A : Int) + 1) = ((A + 1 : Nat) : Int) := by rw [wrap64 (by omega) (by omega)]; omega
  by_cases hAB : A < B
  rotate_left
  · refine Run.intro c108 rfl ?_
    simp (maxSteps := 4000000) (disch := omega) only [Zq, evO, vbox, wr, Zeq, if_true, if_false, Nat.reduceEqDiff, Nat.reduceAdd, Nat.reduceLeDiff, Nat.reduceSub, and_self, and_true, true_and, reduceIte, reduceCtorEq, eq_self, implies_true, forall_const, false_implies, imp_self, decide_true, decide_false, x108, w1]
    refine G_forF [0, 1, 2, 3] (0) (fun q T H1 => T 8 = .int .i64 ((A + 1 : Nat) : Int) ∧ Rk a H H1 ∧ Rw H1 a N f) 0 (Nat.zero_le _) ?_ ?_
    · simp (maxSteps := 4000000) (disch := omega) only [Zq, evO, vbox, wr, Zeq, if_true, if_false, Nat.reduceEqDiff, Nat.reduceAdd, Nat.reduceLeDiff, Nat.reduceSub, and_self, and_true, true_and, reduceIte, reduceCtorEq, eq_self, implies_true, forall_const, false_implies, imp_self, decide_true, decide_false, fix_nil, fix_cons]
      exact ⟨Rk.refl _ _, R⟩
    rintro q T H1 hq hT ⟨t8, k1, R1⟩
    simp only [fix_nil, fix_cons, Zq, evO, vbox, wr, Zeq, if_true, if_false, Nat.reduceEqDiff, Nat.reduceAdd, Nat.reduceLeDiff, Nat.reduceSub, and_self, and_true, true_and, reduceIte, reduceCtorEq, eq_self, implies_true, forall_const, false_implies, imp_self, decide_true, decide_false] at hT
    obtain ⟨t0, t1, t2, t3⟩ := hT
    simp (maxSteps := 4000000) (disch := omega) only [Zq, evO, vbox, wr, Zeq, if_true, if_false, Nat.reduceEqDiff, Nat.reduceAdd, Nat.reduceLeDiff, Nat.reduceSub, and_self, and_true, true_and, reduceIte, reduceCtorEq, eq_self, implies_true, forall_const, false_implies, imp_self, decide_true, decide_false, fix_nil, fix_cons, t0, t1, t2, t3, t8, Zfi (by omega : ¬ ((A + 1 : Nat) : Int) < (B : Int))]
    exact ⟨k1, f, R1, Rl.refl _ _ _, fun i j _ _ _ => by omega⟩
  refine Run.intro c108 rfl ?_
  simp (maxSteps := 4000000) (disch := omega) only [Zq, evO, vbox, wr, Zeq, if_true, if_false, Nat.reduceEqDiff, Nat.reduceAdd, Nat.reduceLeDiff, Nat.reduceSub, and_self, and_true, true_and, reduceIte, reduceCtorEq, eq_self, implies_true, forall_const, false_implies, imp_self, decide_true, decide_false, x108, w1]
  refine G_forF [0, 1, 2, 3] ((B - (A + 1))) (fun q T H1 => T 8 = .int .i64 ((A + 1 + q : Nat) : Int) ∧ Rk a H H1 ∧ ∃ g, Rw H1 a N g ∧ Rl A (A + 1 + q) f g ∧ Srt ltR A (A + 1 + q) g) 0 (Nat.zero_le _) ?_ ?_
  · simp (maxSteps := 4000000) (disch := omega) only [Zq, evO, vbox, wr, Zeq, if_true, if_false, Nat.reduceEqDiff, Nat.reduceAdd, Nat.reduceLeDiff, Nat.reduceSub, and_self, and_true, true_and, reduceIte, reduceCtorEq, eq_self, implies_true, forall_const, false_implies, imp_self, decide_true, decide_false, fix_nil, fix_cons]
    exact ⟨Rk.refl _ _, f, R, Rl.refl _ _ _, fun i j _ _ _ => by omega⟩
  rintro q T H1 hq hT ⟨t8, k1, g, R1, L1, S1⟩
  simp only [fix_nil, fix_cons, Zq, evO, vbox, wr, Zeq, if_true, if_false, Nat.reduceEqDiff, Nat.reduceAdd, Nat.reduceLeDiff, Nat.reduceSub, and_self, and_true, true_and, reduceIte, reduceCtorEq, eq_self, implies_true, forall_const, false_implies, imp_self, decide_true, decide_false] at hT
  obtain ⟨t0, t1, t2, t3⟩ := hT
  obtain ⟨i, hi⟩ : ∃ i, i = A + 1 + q := ⟨_, rfl⟩
  rw [← hi] at t8 L1 S1
  by_cases hin : i < B
  rotate_left
  · obtain rfl : i = B := by omega
    simp (maxSteps := 4000000) (disch := omega) only [Zq, evO, vbox, wr, Zeq, if_true, if_false, Nat.reduceEqDiff, Nat.reduceAdd, Nat.reduceLeDiff, Nat.reduceSub, and_self, and_true, true_and, reduceIte, reduceCtorEq, eq_self, implies_true, forall_const, false_implies, imp_self, decide_true, decide_false, fix_nil, fix_cons, t0, t1, t2, t3, t8, Zfi (by omega : ¬ (i : Int) < (i : Int))]
    exact ⟨k1, g, R1, L1, S1⟩
  have hgi : g i = f i := L1.out i (by omega)
  have hx : ∀ p, A ≤ p → p < i → bfR (g p) (g i) := fun p q1 q2 => by
    obtain ⟨x, x1, x2, x3⟩ := L1.into p q1 q2
    rw [x3, hgi]
    exact hbf _ _ x1 x2 hin
  have hMg : Mg ltR bfR A i (i + 1) g := ⟨S1, fun p q _ _ _ => by omega, fun p q q1 q2 q3 q4 => by
    obtain rfl : q = i := by omega
    exact hx p q1 q2⟩
  have wi : IntKind.i64.wrap ((i : Int) + 1) = ((A + 1 + (q + 1) : Nat) : Int) := by rw [wrap64 (by omega) (by omega)]; omega
  have fin : ∀ {j : Nat}, A ≤ j → j ≤ i → (A < j → ltR (g (j - 1)) (g i)) → (j < i → ltR (g i) (g j)) → Rl A (A + (1 + (q + 1))) f (shr g j i) ∧ Srt ltR A (A + (1 + (q + 1))) (shr g j i) := fun {j} q1 q2 q3 q4 => by
    rw [show A + (1 + (q + 1)) = i + 1 by omega]
    exact ⟨(L1.mono (Nat.le_refl _) (by omega)).trans (shr_Rl q1 q2 (by omega)), mg_right odR hMg q1 q2 q3 q4⟩
  simp (maxSteps := 4000000) (disch := omega) only [Zq, evO, vbox, wr, Zeq, if_true, if_false, Nat.reduceEqDiff, Nat.reduceAdd, Nat.reduceLeDiff, Nat.reduceSub, and_self, and_true, true_and, reduceIte, reduceCtorEq, eq_self, implies_true, forall_const, false_implies, imp_self, decide_true, decide_false, fix_nil, fix_cons, t0, t1, t2, t3, t8, Zfh (by omega : (i : Int) < (B : Int))]
  refine G_loopF [0, 1, 2, 3, 8] ((i - A)) (fun k T H2 => T 9 = .int .i64 ((A + k : Nat) : Int) ∧ k ≤ i - A ∧ Rk a H H2 ∧ Rw H2 a N (shr g (A + k) i) ∧ (A + k < i → ltR (g i) (g (A + k)))) ?_ ?_
  · simp (maxSteps := 4000000) (disch := omega) only [Zq, evO, vbox, wr, Zeq, if_true, if_false, Nat.reduceEqDiff, Nat.reduceAdd, Nat.reduceLeDiff, Nat.reduceSub, and_self, and_true, true_and, reduceIte, reduceCtorEq, eq_self, implies_true, forall_const, false_implies, imp_self, decide_true, decide_false, fix_nil, fix_cons, t0, t1, t2, t3, t8]
    have e : A + (i - A) = i := by omega
    exact ⟨by rw [e], k1, by rw [e, shr_one]; exact R1, fun h => by omega⟩
  rintro k T H2 hT ⟨t9, hk, k2, R2, hlt⟩
  simp only [fix_nil, fix_cons, Zq, evO, vbox, wr, Zeq, if_true, if_false, Nat.reduceEqDiff, Nat.reduceAdd, Nat.reduceLeDiff, Nat.reduceSub, and_self, and_true, true_and, reduceIte, reduceCtorEq, eq_self, implies_true, forall_const, false_implies, imp_self, decide_true, decide_false, t0, t1, t2, t3, t8] at hT
  obtain ⟨t0, t1, t2, t3, t8⟩ := hT
  obtain ⟨j, hj⟩ : ∃ j, j = A + k := ⟨_, rfl⟩
  rw [← hj] at t9 R2 hlt
  by_cases hk0 : 0 < k
  rotate_left
  · have hjA : j = A := by omega
    simp (maxSteps := 4000000) (disch := omega) only [ZD, Zio, Zip, pre_, beq_self_eq_true, Nat.reduceBEq, Zq, evO, vbox, wr, Zeq, if_true, if_false, Nat.reduceEqDiff, Nat.reduceAdd, Nat.reduceLeDiff, Nat.reduceSub, and_self, and_true, true_and, reduceIte, reduceCtorEq, eq_self, implies_true, forall_const, false_implies, imp_self, decide_true, decide_false, fix_nil, fix_cons, t0, t1, t2, t3, t8, t9, G_dreg, Zfi (by omega : ¬ (A : Int) < (j : Int)), wi]
    exact ⟨by omega, k2, _, R2, fin (by omega) (by omega) (fun h => by omega) hlt⟩
  have wj : IntKind.i64.wrap ((j : Int) - 1) = ((j - 1 : Nat) : Int) := by rw [wrap64 (by omega) (by omega)]; omega
  have wj' : ((j - 1 : Nat) : Int) = ((A + (k - 1) : Nat) : Int) := by omega
  have i1 := R2.idx hva (by omega : j < N)
  have i2 := R2.idx hva (by omega : j - 1 < N)
  have l1 := R2.ld hva (by omega : j < N)
  have l2 := R2.ld hva (by omega : j - 1 < N)
  have c1 : shr g j i j = g i := by unfold shr; rw [if_pos rfl]
  have c2 : shr g j i (j - 1) = g (j - 1) := by unfold shr; rw [if_neg (by omega), if_neg (by omega)]
  rw [c1] at l1
  rw [c2] at l2
  have tx := fun (p ix : Nat) (hp : p < N) => (Sl.trL (ix := ix) (o := 0) (R2.sl hva) hp)
  have tx1 := fun ix : Nat => tx j ix (by omega)
  have tx2 := fun ix : Nat => tx (j - 1) ix (by omega)
  have bl := Sl.blk_lt (R2.sl hva) (by omega : j < N)
  simp (maxSteps := 4000000) (disch := omega) only [ZD, Zio, Zip, pre_, beq_self_eq_true, Nat.reduceBEq, Zq, evO, vbox, wr, Zeq, if_true, if_false, Nat.reduceEqDiff, Nat.reduceAdd, Nat.reduceLeDiff, Nat.reduceSub, and_self, and_true, true_and, reduceIte, reduceCtorEq, eq_self, implies_true, forall_const, false_implies, imp_self, decide_true, decide_false, fix_nil, fix_cons, t0, t1, t2, t3, t8, t9, G_dreg, Zfh (by omega : (A : Int) < (j : Int)), wj, i1, i2, l1, l2, tx1, tx2]
  refine GD_calld_eq (f := 58) (cs := #[]) (vs := [.agg #[.int .i64 (g i).1, .int .i64 (g i).2.1, .int .i64 (g i).2.2.1, .int .i64 (g i).2.2.2], .agg #[.int .i64 (g (j - 1)).1, .int .i64 (g (j - 1)).2.1, .int .i64 (g (j - 1)).2.2.1, .int .i64 (g (j - 1)).2.2.2]]) (by simp (maxSteps := 4000000) (disch := omega) only [Zq, evO, vbox, wr, Zeq, if_true, if_false, Nat.reduceEqDiff, Nat.reduceAdd, Nat.reduceLeDiff, Nat.reduceSub, and_self, and_true, true_and, reduceIte, reduceCtorEq, eq_self, implies_true, forall_const, false_implies, imp_self, decide_true, decide_false, fix_nil, fix_cons, t0, t1, t2, t3, t8, t9]) (by simp (maxSteps := 4000000) (disch := omega) only [Zq, evO, vbox, wr, Zeq, if_true, if_false, Nat.reduceEqDiff, Nat.reduceAdd, Nat.reduceLeDiff, Nat.reduceSub, and_self, and_true, true_and, reduceIte, reduceCtorEq, eq_self, implies_true, forall_const, false_implies, imp_self, decide_true, decide_false, fix_nil, fix_cons, t0, t1, t2, t3, t8, t9]) ((r_cmpRun (g i) (g (j - 1)) H2).mono ?_)
  rintro _ H3 ⟨k3, rfl⟩
  have R3 := R2.keep k3
  have k23 := k2.trans (Rk.keep k3)
  by_cases hc : cmpZ (g i).2.2.1 (g (j - 1)).2.2.1 < 0
  · have hgt := cmpZ_neg.1 hc
    have l1b := R3.ld hva (by omega : j < N)
    have l2b := R3.ld hva (by omega : j - 1 < N)
    have e1 := R3.st hva (by omega : j < N) (shr g j i (j - 1))
    have R4 := R3.set j (shr g j i (j - 1))
    have e2 := R4.st hva (by omega : j - 1 < N) (shr g j i j)
    have R5 := R4.set (j - 1) (shr g j i j)
    rw [sw_two, shr_pred (by omega) (by omega)] at R5
    simp (maxSteps := 4000000) (disch := omega) only [ZD, Zio, Zip, pre_, beq_self_eq_true, Nat.reduceBEq, Zq, evO, vbox, wr, Zeq, if_true, if_false, Nat.reduceEqDiff, Nat.reduceAdd, Nat.reduceLeDiff, Nat.reduceSub, and_self, and_true, true_and, reduceIte, reduceCtorEq, eq_self, implies_true, forall_const, false_implies, imp_self, decide_true, decide_false, fix_nil, fix_cons, t0, t1, t2, t3, t8, t9, Zfh hc]
    refine G_tame rfl ?_
    simp (maxSteps := 4000000) (disch := omega) only [Zq, evO, vbox, wr, Zeq, if_true, if_false, Nat.reduceEqDiff, Nat.reduceAdd, Nat.reduceLeDiff, Nat.reduceSub, and_self, and_true, true_and, reduceIte, reduceCtorEq, eq_self, implies_true, forall_const, false_implies, imp_self, decide_true, decide_false, fix_nil, fix_cons, t0, t1, t2, t3, t8, t9, wj, i1, i2, l1b, l2b, e1, e2]
    refine ⟨k - 1, by omega, ?_⟩
    rw [show A + (k - 1) = j - 1 by omega]
    exact ⟨rfl, by omega, k23.trans (Rk.set.trans Rk.set), R5, fun _ => .inl hgt⟩
  · have hle : ¬ (g i).2.2.1 < (g (j - 1)).2.2.1 := fun h => hc (cmpZ_neg.2 h)
    simp (maxSteps := 4000000) (disch := omega) only [ZD, Zio, Zip, pre_, beq_self_eq_true, Nat.reduceBEq, Zq, evO, vbox, wr, Zeq, if_true, if_false, Nat.reduceEqDiff, Nat.reduceAdd, Nat.reduceLeDiff, Nat.reduceSub, and_self, and_true, true_and, reduceIte, reduceCtorEq, eq_self, implies_true, forall_const, false_implies, imp_self, decide_true, decide_false, fix_nil, fix_cons, t0, t1, t2, t3, t8, t9, Zfi hc, wi]
    exact ⟨by omega, k23, _, R3, fin (by omega) (by omega) (fun _ => odR.no (hx _ (by omega) (by omega)) (decide_eq_false hle)) hlt⟩
end
end Go.Proofs.Ytjjglonmaajjoaa.AX
