/- The new desk: the law's run. No condition; of the program: the functions' forms. -/
import Derived.Test.YtkadelndmaegdaaRnd
import Derived.Test.YtkadelndmaegdaaAXzg
namespace Go.Proofs.Ytkadelndmaegdaa.AX
open Go
set_option maxRecDepth 10000
set_option maxHeartbeats 4000000
set_option linter.unusedSimpArgs false
set_option linter.unusedVariables false
abbrev Yd := List Int × List (List Int)
def yd0 : Yd := ([6, 4, 4], [[5, 3, 4, 1, 2], [], []])
def dkV (a b : Value) : Value := .agg #[.int .i64 1, .slice none 0 0, .slice none 0 0, .int .i64 4, .int .i64 5, .slice none 0 0, a, b]
theorem ownRows_ints (H : Heap) : ∀ xs : List Int, ownRows rInt H (xs.map fun x => [Value.int .i64 x]) xs (xs.map fun _ => [])
  | [] => trivial
  | x :: xs => ⟨⟨rfl, rfl⟩, ownRows_ints H xs⟩
theorem own_ints {H : Heap} {p : Nat} {xs : List Int} (hp : p < H.nxt) (hg : H.get p = some (.own (xs.map (Value.int .i64)))) : (rSlc rInt).own H [.slice (some ⟨p, 0, none⟩) xs.length 1] xs [p] := by
  refine .inr ⟨p, 0, [], xs.map fun x => [Value.int .i64 x], [], xs.map fun _ => [], rfl, hp, ?_, rfl, ownRows_ints H xs, ?_⟩
  · rw [hg]
    congr 2
    simp only [mid, List.nil_append, List.append_nil]
    clear hg
    induction xs with
    | nil => rfl
    | cons x xs ih => simpa using ih
  · congr 1
    induction xs with
    | nil => rfl
    | cons x xs ih => simp
theorem nil_rd {α : Type} {r : Rep α} {H : Heap} : (rSlc r).rd H [.slice none 0 0] [] := ⟨_, [], rfl, ⟨by simp, .inl ⟨rfl, rfl⟩⟩, .nil⟩
theorem nil_own {α : Type} {r : Rep α} {H : Heap} : (rSlc r).own H [.slice none 0 0] [] [] := .inl ⟨rfl, rfl, rfl⟩
theorem r_eqTripS_nil (H : Heap) : Run Try.prog 15 [.slice none 0 0, .slice none 0 0] H fun r H' => Keep H H' ∧ r = .bool true := by
  refine Run.intro c15 rfl ?_
  simp (maxSteps := 4000000) (disch := omega) only [Zq, evO, vbox, wr, Zeq, if_true, if_false, Nat.reduceEqDiff, Nat.reduceAdd, Nat.reduceLeDiff, Nat.reduceSub, and_self, and_true, true_and, reduceIte, reduceCtorEq, eq_self, implies_true, forall_const, false_implies, imp_self, decide_true, decide_false, x15]
  refine G_forF [0, 1] (0) (fun i T H1 => T 5 = .int .i64 (i : Int) ∧ H1 = H) 0 (Nat.zero_le _) ?_ ?_
  · simp (maxSteps := 4000000) (disch := omega) only [Zq, evO, vbox, wr, Zeq, if_true, if_false, Nat.reduceEqDiff, Nat.reduceAdd, Nat.reduceLeDiff, Nat.reduceSub, and_self, and_true, true_and, reduceIte, reduceCtorEq, eq_self, implies_true, forall_const, false_implies, imp_self, decide_true, decide_false, fix_nil, fix_cons]
  rintro i T H1 hi hT ⟨t5, rfl⟩
  simp only [fix_nil, fix_cons, Zq, evO, vbox, wr, Zeq, if_true, if_false, Nat.reduceEqDiff, Nat.reduceAdd, Nat.reduceLeDiff, Nat.reduceSub, and_self, and_true, true_and, reduceIte, reduceCtorEq, eq_self, implies_true, forall_const, false_implies, imp_self, decide_true, decide_false] at hT
  obtain ⟨t0, t1⟩ := hT
  obtain rfl : i = 0 := by omega
  simp (maxSteps := 4000000) (disch := omega) only [Zq, evO, vbox, wr, Zeq, if_true, if_false, Nat.reduceEqDiff, Nat.reduceAdd, Nat.reduceLeDiff, Nat.reduceSub, and_self, and_true, true_and, reduceIte, reduceCtorEq, eq_self, implies_true, forall_const, false_implies, imp_self, decide_true, decide_false, fix_nil, fix_cons, t0, t1, t5]
  exact Keep.refl _
theorem r_markTripS_nil (k : Int) (H : Heap) : Run Try.prog 19 [.slice none 0 0, .int .i64 k] H fun r H' => Keep H H' ∧ r = .int .i64 k := by
  refine Run.intro c19 rfl ?_
  simp (maxSteps := 4000000) (disch := omega) only [Zq, evO, vbox, wr, Zeq, if_true, if_false, Nat.reduceEqDiff, Nat.reduceAdd, Nat.reduceLeDiff, Nat.reduceSub, and_self, and_true, true_and, reduceIte, reduceCtorEq, eq_self, implies_true, forall_const, false_implies, imp_self, decide_true, decide_false, x19]
  refine G_forF [0] (0) (fun i T H1 => T 5 = .int .i64 (i : Int) ∧ T 1 = .int .i64 k ∧ H1 = H) 0 (Nat.zero_le _) ?_ ?_
  · simp (maxSteps := 4000000) (disch := omega) only [Zq, evO, vbox, wr, Zeq, if_true, if_false, Nat.reduceEqDiff, Nat.reduceAdd, Nat.reduceLeDiff, Nat.reduceSub, and_self, and_true, true_and, reduceIte, reduceCtorEq, eq_self, implies_true, forall_const, false_implies, imp_self, decide_true, decide_false, fix_nil, fix_cons]
  rintro i T H1 hi hT ⟨t5, t1, rfl⟩
  simp only [fix_nil, fix_cons, Zq, evO, vbox, wr, Zeq, if_true, if_false, Nat.reduceEqDiff, Nat.reduceAdd, Nat.reduceLeDiff, Nat.reduceSub, and_self, and_true, true_and, reduceIte, reduceCtorEq, eq_self, implies_true, forall_const, false_implies, imp_self, decide_true, decide_false] at hT
  have t0 := hT
  obtain rfl : i = 0 := by omega
  simp (maxSteps := 4000000) (disch := omega) only [Zq, evO, vbox, wr, Zeq, if_true, if_false, Nat.reduceEqDiff, Nat.reduceAdd, Nat.reduceLeDiff, Nat.reduceSub, and_self, and_true, true_and, reduceIte, reduceCtorEq, eq_self, implies_true, forall_const, false_implies, imp_self, decide_true, decide_false, fix_nil, fix_cons, t0, t5, t1]
  exact Keep.refl _
theorem r_heldTripS_nil (k : Int) (H : Heap) : Run Try.prog 23 [.slice none 0 0, .int .i64 k] H fun r H' => Keep H H' ∧ r = .int .i64 k := by
  refine Run.intro c23 rfl ?_
  simp (maxSteps := 4000000) (disch := omega) only [Zq, evO, vbox, wr, Zeq, if_true, if_false, Nat.reduceEqDiff, Nat.reduceAdd, Nat.reduceLeDiff, Nat.reduceSub, and_self, and_true, true_and, reduceIte, reduceCtorEq, eq_self, implies_true, forall_const, false_implies, imp_self, decide_true, decide_false, x23]
  refine G_forF [0] (0) (fun i T H1 => T 5 = .int .i64 (i : Int) ∧ T 1 = .int .i64 k ∧ H1 = H) 0 (Nat.zero_le _) ?_ ?_
  · simp (maxSteps := 4000000) (disch := omega) only [Zq, evO, vbox, wr, Zeq, if_true, if_false, Nat.reduceEqDiff, Nat.reduceAdd, Nat.reduceLeDiff, Nat.reduceSub, and_self, and_true, true_and, reduceIte, reduceCtorEq, eq_self, implies_true, forall_const, false_implies, imp_self, decide_true, decide_false, fix_nil, fix_cons]
  rintro i T H1 hi hT ⟨t5, t1, rfl⟩
  simp only [fix_nil, fix_cons, Zq, evO, vbox, wr, Zeq, if_true, if_false, Nat.reduceEqDiff, Nat.reduceAdd, Nat.reduceLeDiff, Nat.reduceSub, and_self, and_true, true_and, reduceIte, reduceCtorEq, eq_self, implies_true, forall_const, false_implies, imp_self, decide_true, decide_false] at hT
  have t0 := hT
  obtain rfl : i = 0 := by omega
  simp (maxSteps := 4000000) (disch := omega) only [Zq, evO, vbox, wr, Zeq, if_true, if_false, Nat.reduceEqDiff, Nat.reduceAdd, Nat.reduceLeDiff, Nat.reduceSub, and_self, and_true, true_and, reduceIte, reduceCtorEq, eq_self, implies_true, forall_const, false_implies, imp_self, decide_true, decide_false, fix_nil, fix_cons, t0, t5, t1]
  exact Keep.refl _
theorem r_eqDesk {H : Heap} {a b c e : Value} {y : Yd} (h : rSidings.rd H [a, b] y) (g : rSidings.rd H [c, e] y) (ht : rSidings.tot y ≤ 1000) : Run Try.prog 7 [dkV a b, dkV c e] H fun r H' => Keep H H' ∧ r = .bool true := by
  unfold dkV
  refine Run.intro c7 rfl ?_
  simp (maxSteps := 4000000) (disch := omega) only [Zq, evO, vbox, wr, Zeq, if_true, if_false, Nat.reduceEqDiff, Nat.reduceAdd, Nat.reduceLeDiff, Nat.reduceSub, and_self, and_true, true_and, reduceIte, reduceCtorEq, eq_self, implies_true, forall_const, false_implies, imp_self, decide_true, decide_false, x7]
  generalize hG1 : H.push [.int .i64 1, .slice none 0 0, .slice none 0 0, .int .i64 4, .int .i64 5, .slice none 0 0, a, b] = H1
  have k1 : Keep H H1 := by rw [← hG1]; exact Keep.push _ _
  have g1 : H1.get H.nxt = some (.own [.int .i64 1, .slice none 0 0, .slice none 0 0, .int .i64 4, .int .i64 5, .slice none 0 0, a, b]) := by rw [← hG1, push_get', if_pos rfl]
  have n1 : H1.nxt = H.nxt + 1 := by rw [← hG1, Zbg]
  generalize hG2 : H1.push [.int .i64 1, .slice none 0 0, .slice none 0 0, .int .i64 4, .int .i64 5, .slice none 0 0, c, e] = H2
  have k2 : Keep H1 H2 := by rw [← hG2]; exact Keep.push _ _
  have g2 : H2.get H1.nxt = some (.own [.int .i64 1, .slice none 0 0, .slice none 0 0, .int .i64 4, .int .i64 5, .slice none 0 0, c, e]) := by rw [← hG2, push_get', if_pos rfl]
  have n2 : H2.nxt = H1.nxt + 1 := by rw [← hG2, Zbg]
  rw [n1] at g2
  have g12 := (k2.get H.nxt (by omega)).trans g1
  refine GO_call ((eqNet_is H2 [.int .i64 1, .slice none 0 0] [.int .i64 1, .slice none 0 0] (1, []) (net_rd' nil_rd) (net_rd' nil_rd) (by show 0 + (0 + 0) ≤ _; omega)).mono ?_)
  rintro _ H3 ⟨k3, rfl⟩
  have n3 := k3.nxt
  have g3 := (k3.get (H.nxt) (by omega)).trans g12
  have g3b := (k3.get ((H.nxt + 1)) (by omega)).trans g2
  simp (maxSteps := 4000000) (disch := omega) only [Zq, evO, vbox, wr, Zeq, if_true, if_false, Nat.reduceEqDiff, Nat.reduceAdd, Nat.reduceLeDiff, Nat.reduceSub, and_self, and_true, true_and, reduceIte, reduceCtorEq, eq_self, implies_true, forall_const, false_implies, imp_self, decide_true, decide_false, fix_nil, fix_cons, g1, g2, g12, g3, g3b]
  refine GO_call ((r_eqTripS_nil H3).mono ?_)
  rintro _ H4 ⟨k4, rfl⟩
  have n4 := k4.nxt
  have g4 := (k4.get (H.nxt) (by omega)).trans g3
  have g4b := (k4.get ((H.nxt + 1)) (by omega)).trans g3b
  simp (maxSteps := 4000000) (disch := omega) only [Zq, evO, vbox, wr, Zeq, if_true, if_false, Nat.reduceEqDiff, Nat.reduceAdd, Nat.reduceLeDiff, Nat.reduceSub, and_self, and_true, true_and, reduceIte, reduceCtorEq, eq_self, implies_true, forall_const, false_implies, imp_self, decide_true, decide_false, fix_nil, fix_cons, g1, g2, g12, g3, g3b, g4, g4b]
  refine GO_call ((eqTrain_is H4 [.int .i64 4, .int .i64 5, .slice none 0 0] [.int .i64 4, .int .i64 5, .slice none 0 0] (4, 5, []) (train_rd' nil_rd) (train_rd' nil_rd) (by show 0 + (0 + (0 + 0)) ≤ _; omega)).mono ?_)
  rintro _ H5 ⟨k5, rfl⟩
  have n5 := k5.nxt
  have g5 := (k5.get (H.nxt) (by omega)).trans g4
  have g5b := (k5.get ((H.nxt + 1)) (by omega)).trans g4b
  have k05 := k1.trans (k2.trans (k3.trans (k4.trans k5)))
  simp (maxSteps := 4000000) (disch := omega) only [Zq, evO, vbox, wr, Zeq, if_true, if_false, Nat.reduceEqDiff, Nat.reduceAdd, Nat.reduceLeDiff, Nat.reduceSub, and_self, and_true, true_and, reduceIte, reduceCtorEq, eq_self, implies_true, forall_const, false_implies, imp_self, decide_true, decide_false, fix_nil, fix_cons, g1, g2, g12, g3, g3b, g4, g4b, g5, g5b]
  refine GO_call ((eqSidings_is H5 [a, b] [c, e] y (rSidings.rdk h k05) (rSidings.rdk g k05) (by omega)).mono ?_)
  rintro _ H6 ⟨k6, rfl⟩
  have n6 := k6.nxt
  simp (maxSteps := 4000000) (disch := omega) only [Zq, evO, vbox, wr, Zeq, if_true, if_false, Nat.reduceEqDiff, Nat.reduceAdd, Nat.reduceLeDiff, Nat.reduceSub, and_self, and_true, true_and, reduceIte, reduceCtorEq, eq_self, implies_true, forall_const, false_implies, imp_self, decide_true, decide_false, fix_nil, fix_cons, g1, g2, g12, g3, g3b, g4, g4b, g5, g5b]
  exact k05.trans k6
theorem r_markDesk {H : Heap} {a b : Value} {y : Yd} {F : List Nat} {k : Nat} (h : rSidings.own H [a, b] y F) (hF : F.Nodup) (ht : rSidings.tot y ≤ 1000) (hk : k ≤ 1000) : Run Try.prog 8 [dkV a b, .int .i64 k] H fun r H' => Chg F H H' ∧ rSidings.own H' [a, b] (mSidings y k).1 F ∧ r = .int .i64 ((mSidings y k).2 : Int) := by
  unfold dkV
  refine Run.intro c8 rfl ?_
  simp (maxSteps := 4000000) (disch := omega) only [Zq, evO, vbox, wr, Zeq, if_true, if_false, Nat.reduceEqDiff, Nat.reduceAdd, Nat.reduceLeDiff, Nat.reduceSub, and_self, and_true, true_and, reduceIte, reduceCtorEq, eq_self, implies_true, forall_const, false_implies, imp_self, decide_true, decide_false, x8]
  generalize hG1 : H.push [.int .i64 1, .slice none 0 0, .slice none 0 0, .int .i64 4, .int .i64 5, .slice none 0 0, a, b] = H1
  have k1 : Keep H H1 := by rw [← hG1]; exact Keep.push _ _
  have g1 : H1.get H.nxt = some (.own [.int .i64 1, .slice none 0 0, .slice none 0 0, .int .i64 4, .int .i64 5, .slice none 0 0, a, b]) := by rw [← hG1, push_get', if_pos rfl]
  have n1 : H1.nxt = H.nxt + 1 := by rw [← hG1, Zbg]
  refine GO_call ((markNet_is H1 [.int .i64 1, .slice none 0 0] (1, []) [] k (net_own' nil_own) (by simp) (by show k + 99 * (0 + (0 + 0)) ≤ _; omega)).mono ?_)
  rintro _ H2 ⟨c2, _, rfl⟩
  have k2 : Keep H1 H2 := ⟨c2.nxt, fun a ha => c2.get a ha (by simp)⟩
  have n2 := k2.nxt
  have g2 := (k2.get H.nxt (by omega)).trans g1
  rw [show (mNet (1, []) k).2 = k from rfl]
  simp (maxSteps := 4000000) (disch := omega) only [Zq, evO, vbox, wr, Zeq, if_true, if_false, Nat.reduceEqDiff, Nat.reduceAdd, Nat.reduceLeDiff, Nat.reduceSub, and_self, and_true, true_and, reduceIte, reduceCtorEq, eq_self, implies_true, forall_const, false_implies, imp_self, decide_true, decide_false, fix_nil, fix_cons, g1, g2]
  refine GO_call ((r_markTripS_nil k H2).mono ?_)
  rintro _ H3 ⟨k3, rfl⟩
  have n3 := k3.nxt
  have g3 := (k3.get (H.nxt) (by omega)).trans g2
  simp (maxSteps := 4000000) (disch := omega) only [Zq, evO, vbox, wr, Zeq, if_true, if_false, Nat.reduceEqDiff, Nat.reduceAdd, Nat.reduceLeDiff, Nat.reduceSub, and_self, and_true, true_and, reduceIte, reduceCtorEq, eq_self, implies_true, forall_const, false_implies, imp_self, decide_true, decide_false, fix_nil, fix_cons, g1, g2, g3]
  refine GO_call ((markTrain_is H3 [.int .i64 4, .int .i64 5, .slice none 0 0] (4, 5, []) [] k (train_own' nil_own) (by simp) (by show k + 99 * (0 + (0 + (0 + 0))) ≤ _; omega)).mono ?_)
  rintro _ H4 ⟨c4, _, rfl⟩
  have k4 : Keep H3 H4 := ⟨c4.nxt, fun a ha => c4.get a ha (by simp)⟩
  have n4 := k4.nxt
  have g4 := (k4.get H.nxt (by omega)).trans g3
  rw [show (mTrain (4, 5, []) k).2 = k from rfl]
  have k04 := k1.trans (k2.trans (k3.trans k4))
  simp (maxSteps := 4000000) (disch := omega) only [Zq, evO, vbox, wr, Zeq, if_true, if_false, Nat.reduceEqDiff, Nat.reduceAdd, Nat.reduceLeDiff, Nat.reduceSub, and_self, and_true, true_and, reduceIte, reduceCtorEq, eq_self, implies_true, forall_const, false_implies, imp_self, decide_true, decide_false, fix_nil, fix_cons, g1, g2, g3, g4]
  refine GO_call ((markSidings_is H4 [a, b] y F k (rSidings.ownKeep h k04) hF (by omega)).mono ?_)
  rintro _ H5 ⟨c5, o5, rfl⟩
  simp (maxSteps := 4000000) (disch := omega) only [Zq, evO, vbox, wr, Zeq, if_true, if_false, Nat.reduceEqDiff, Nat.reduceAdd, Nat.reduceLeDiff, Nat.reduceSub, and_self, and_true, true_and, reduceIte, reduceCtorEq, eq_self, implies_true, forall_const, false_implies, imp_self, decide_true, decide_false, fix_nil, fix_cons, g1, g2, g3, g4]
  exact ⟨k04.chg.trans c5, o5⟩
theorem r_heldDesk {H : Heap} {a b : Value} {y : Yd} {k : Nat} (h : rSidings.rd H [a, b] (mSidings y k).1) (ht : rSidings.tot y ≤ 1000) (hk : k ≤ 1000) : Run Try.prog 9 [dkV a b, .int .i64 k] H fun r H' => Keep H H' ∧ r = .int .i64 ((mSidings y k).2 : Int) := by
  unfold dkV
  have hk0 : ¬ (k : Int) < 0 := by omega
  have hm0 : ¬ ((mSidings y k).2 : Int) < 0 := by omega
  refine Run.intro c9 rfl ?_
  simp (maxSteps := 4000000) (disch := omega) only [Zq, evO, vbox, wr, Zeq, if_true, if_false, Nat.reduceEqDiff, Nat.reduceAdd, Nat.reduceLeDiff, Nat.reduceSub, and_self, and_true, true_and, reduceIte, reduceCtorEq, eq_self, implies_true, forall_const, false_implies, imp_self, decide_true, decide_false, x9]
  generalize hG1 : H.push [.int .i64 1, .slice none 0 0, .slice none 0 0, .int .i64 4, .int .i64 5, .slice none 0 0, a, b] = H1
  have k1 : Keep H H1 := by rw [← hG1]; exact Keep.push _ _
  have g1 : H1.get H.nxt = some (.own [.int .i64 1, .slice none 0 0, .slice none 0 0, .int .i64 4, .int .i64 5, .slice none 0 0, a, b]) := by rw [← hG1, push_get', if_pos rfl]
  have n1 : H1.nxt = H.nxt + 1 := by rw [← hG1, Zbg]
  refine GO_call ((heldNet_is H1 [.int .i64 1, .slice none 0 0] (1, []) k (net_rd' nil_rd) (by show k + 99 * (0 + (0 + 0)) ≤ _; omega)).mono ?_)
  rintro _ H2 ⟨k2, rfl⟩
  have n2 := k2.nxt
  have g2 := (k2.get (H.nxt) (by omega)).trans g1
  rw [show (mNet (1, []) k).2 = k from rfl]
  simp (maxSteps := 4000000) (disch := omega) only [Zq, evO, vbox, wr, Zeq, if_true, if_false, Nat.reduceEqDiff, Nat.reduceAdd, Nat.reduceLeDiff, Nat.reduceSub, and_self, and_true, true_and, reduceIte, reduceCtorEq, eq_self, implies_true, forall_const, false_implies, imp_self, decide_true, decide_false, fix_nil, fix_cons, g1, g2, Zfi hk0]
  refine GO_call ((r_heldTripS_nil k H2).mono ?_)
  rintro _ H3 ⟨k3, rfl⟩
  have n3 := k3.nxt
  have g3 := (k3.get (H.nxt) (by omega)).trans g2
  simp (maxSteps := 4000000) (disch := omega) only [Zq, evO, vbox, wr, Zeq, if_true, if_false, Nat.reduceEqDiff, Nat.reduceAdd, Nat.reduceLeDiff, Nat.reduceSub, and_self, and_true, true_and, reduceIte, reduceCtorEq, eq_self, implies_true, forall_const, false_implies, imp_self, decide_true, decide_false, fix_nil, fix_cons, g1, g2, g3, Zfi hk0]
  refine GO_call ((heldTrain_is H3 [.int .i64 4, .int .i64 5, .slice none 0 0] (4, 5, []) k (train_rd' nil_rd) (by show k + 99 * (0 + (0 + (0 + 0))) ≤ _; omega)).mono ?_)
  rintro _ H4 ⟨k4, rfl⟩
  have n4 := k4.nxt
  have g4 := (k4.get (H.nxt) (by omega)).trans g3
  rw [show (mTrain (4, 5, []) k).2 = k from rfl]
  have k04 := k1.trans (k2.trans (k3.trans k4))
  simp (maxSteps := 4000000) (disch := omega) only [Zq, evO, vbox, wr, Zeq, if_true, if_false, Nat.reduceEqDiff, Nat.reduceAdd, Nat.reduceLeDiff, Nat.reduceSub, and_self, and_true, true_and, reduceIte, reduceCtorEq, eq_self, implies_true, forall_const, false_implies, imp_self, decide_true, decide_false, fix_nil, fix_cons, g1, g2, g3, g4, Zfi hk0]
  refine GO_call ((heldSidings_is H4 [a, b] y k (rSidings.rdk h k04) (by omega)).mono ?_)
  rintro _ H5 ⟨k5, rfl⟩
  have n5 := k5.nxt
  simp (maxSteps := 4000000) (disch := omega) only [Zq, evO, vbox, wr, Zeq, if_true, if_false, Nat.reduceEqDiff, Nat.reduceAdd, Nat.reduceLeDiff, Nat.reduceSub, and_self, and_true, true_and, reduceIte, reduceCtorEq, eq_self, implies_true, forall_const, false_implies, imp_self, decide_true, decide_false, fix_nil, fix_cons, g1, g2, g3, g4, Zfi hm0]
  exact k04.trans k5
def IsNd (f : FuncId) : Prop := ∀ H : Heap, Run Try.prog f [] H fun r H' => Keep H H' ∧ ∃ a b F, r = dkV a b ∧ rSidings.own H' [a, b] yd0 F ∧ Fresh H H' F
theorem nd_own {H H' : Heap} (hH : H' = (((((((H.push [.int .i64 0, .slice none 0 0, .slice none 0 0, .int .i64 0, .int .i64 0, .slice none 0 0, .slice none 0 0, .slice none 0 0]).push [.int .i64 6, .int .i64 4, .int .i64 4]).push [.int .i64 5, .int .i64 3, .int .i64 4, .int .i64 1, .int .i64 2]).push []).push []).push [.slice (some ⟨H.nxt + 2, 0, none⟩) 5 1, .slice (some ⟨H.nxt + 3, 0, none⟩) 0 1, .slice (some ⟨H.nxt + 4, 0, none⟩) 0 1]).set H.nxt [.int .i64 1, .slice none 0 0, .slice none 0 0, .int .i64 4, .int .i64 5, .slice none 0 0, .slice (some ⟨H.nxt + 1, 0, none⟩) 3 1, .slice (some ⟨H.nxt + 5, 0, none⟩) 3 1])) :
    Keep H H' ∧ rSidings.own H' [.slice (some ⟨H.nxt + 1, 0, none⟩) 3 1, .slice (some ⟨H.nxt + 5, 0, none⟩) 3 1] yd0 ([H.nxt + 1] ++ [H.nxt + 5, H.nxt + 2, H.nxt + 3, H.nxt + 4]) ∧ Fresh H H' ([H.nxt + 1] ++ [H.nxt + 5, H.nxt + 2, H.nxt + 3, H.nxt + 4]) := by
  have n : H'.nxt = H.nxt + 6 := by rw [hH]; simp only [Zbh, Zbg]
  have g1 : H'.get (H.nxt + 1) = some (.own ([6, 4, 4].map (Value.int .i64))) := by
    rw [hH, Zbi, if_neg (by omega)]
    simp [push_get', Zbg]
  have g2 : H'.get (H.nxt + 2) = some (.own ([5, 3, 4, 1, 2].map (Value.int .i64))) := by
    rw [hH, Zbi, if_neg (by omega)]
    simp [push_get', Zbg]
  have g3 : H'.get (H.nxt + 3) = some (.own (([] : List Int).map (Value.int .i64))) := by
    rw [hH, Zbi, if_neg (by omega)]
    simp [push_get', Zbg]
  have g4 : H'.get (H.nxt + 4) = some (.own (([] : List Int).map (Value.int .i64))) := by
    rw [hH, Zbi, if_neg (by omega)]
    simp [push_get', Zbg]
  have g5 : H'.get (H.nxt + 5) = some (.own [.slice (some ⟨H.nxt + 2, 0, none⟩) 5 1, .slice (some ⟨H.nxt + 3, 0, none⟩) 0 1, .slice (some ⟨H.nxt + 4, 0, none⟩) 0 1]) := by
    rw [hH, Zbi, if_neg (by omega)]
    simp [push_get', Zbg]
  refine ⟨by rw [hH]; exact ((Keep.push' (Keep.push' (Keep.push' (Keep.push' (Keep.push' (Keep.push' (Keep.refl _))))))).set' (Nat.le_refl _)), sidings_own' (own_ints (by omega) g1) ?_, ?_, ?_⟩
  · exact .inr ⟨H.nxt + 5, 0, [], [[.slice (some ⟨H.nxt + 2, 0, none⟩) 5 1], [.slice (some ⟨H.nxt + 3, 0, none⟩) 0 1], [.slice (some ⟨H.nxt + 4, 0, none⟩) 0 1]], [], [[H.nxt + 2], [H.nxt + 3], [H.nxt + 4]], rfl, by omega, g5, rfl, ⟨own_ints (xs := [5, 3, 4, 1, 2]) (by omega) g2, own_ints (xs := []) (by omega) g3, own_ints (xs := []) (by omega) g4, trivial⟩, rfl⟩
  · simp
  · intro i hi
    simp only [List.mem_append, List.mem_cons, List.not_mem_nil, or_false] at hi
    omega
theorem nd_spec : IsNd 5 := by
  intro H
  refine Run.intro c5 rfl ?_
  simp (maxSteps := 4000000) (disch := omega) only [Zq, evO, vbox, wr, Zeq, if_true, if_false, Nat.reduceEqDiff, Nat.reduceAdd, Nat.reduceLeDiff, Nat.reduceSub, and_self, and_true, true_and, reduceIte, reduceCtorEq, eq_self, implies_true, forall_const, false_implies, imp_self, decide_true, decide_false, x5]
  obtain ⟨k, o, f⟩ := nd_own (H := H) rfl
  exact ⟨k, _, _, _, rfl, o, f⟩
theorem nd_impl : IsNd 6 := by
  intro H
  refine Run.intro c6 rfl ?_
  simp (maxSteps := 4000000) (disch := omega) only [Zq, evO, vbox, wr, Zeq, if_true, if_false, Nat.reduceEqDiff, Nat.reduceAdd, Nat.reduceLeDiff, Nat.reduceSub, and_self, and_true, true_and, reduceIte, reduceCtorEq, eq_self, implies_true, forall_const, false_implies, imp_self, decide_true, decide_false, x6]
  obtain ⟨k, o, f⟩ := nd_own (H := H) rfl
  exact ⟨k, _, _, _, rfl, o, f⟩
theorem yd_tot : rSidings.tot yd0 ≤ 1000 := by
  rw [yd0, sidings_tot]
  show (3 + _) + _ ≤ _
  decide
theorem r_laws_FnExactNewDesk (H : Heap) : Run Try.prog 3 [] H fun r _ => r = .bool true := by
  have hm0 : ¬ ((mSidings yd0 1).2 : Int) < 0 := by omega
  refine Run.intro c3 rfl ?_
  simp (maxSteps := 4000000) (disch := omega) only [Zq, evO, vbox, wr, Zeq, if_true, if_false, Nat.reduceEqDiff, Nat.reduceAdd, Nat.reduceLeDiff, Nat.reduceSub, and_self, and_true, true_and, reduceIte, reduceCtorEq, eq_self, implies_true, forall_const, false_implies, imp_self, decide_true, decide_false, x3]
  refine GO_call ((nd_spec H).mono ?_)
  rintro _ H1 ⟨k1, a, b, F, rfl, o1, f1⟩
  unfold dkV
  simp (maxSteps := 4000000) (disch := omega) only [Zq, evO, vbox, wr, Zeq, if_true, if_false, Nat.reduceEqDiff, Nat.reduceAdd, Nat.reduceLeDiff, Nat.reduceSub, and_self, and_true, true_and, reduceIte, reduceCtorEq, eq_self, implies_true, forall_const, false_implies, imp_self, decide_true, decide_false, fix_nil, fix_cons]
  generalize hG2 : (H1.push [.int .i64 0, .slice none 0 0, .slice none 0 0, .int .i64 0, .int .i64 0, .slice none 0 0, .slice none 0 0, .slice none 0 0]).set H1.nxt [.int .i64 1, .slice none 0 0, .slice none 0 0, .int .i64 4, .int .i64 5, .slice none 0 0, a, b] = H2
  have k2 : Keep H1 H2 := by rw [← hG2]; repeat' (first | exact Keep.refl _ | assumption | refine Keep.push' ?_ | refine Keep.set' ?_ ?_ | refine Keep.moved' ?_ ?_ | omega)
  have g2 : H2.get H1.nxt = some (.own [.int .i64 1, .slice none 0 0, .slice none 0 0, .int .i64 4, .int .i64 5, .slice none 0 0, a, b]) := by rw [← hG2, Zbi, if_pos rfl]
  have n2 : H2.nxt = H1.nxt + 1 := by rw [← hG2, Zbh, Zbg]
  refine GO_call ((nd_impl H2).mono ?_)
  rintro _ H3 ⟨k3, c, e, G, rfl, o3, f3⟩
  have n3 := k3.nxt
  have g3 := (k3.get H1.nxt (by omega)).trans g2
  unfold dkV
  simp (maxSteps := 4000000) (disch := omega) only [Zq, evO, vbox, wr, Zeq, if_true, if_false, Nat.reduceEqDiff, Nat.reduceAdd, Nat.reduceLeDiff, Nat.reduceSub, and_self, and_true, true_and, reduceIte, reduceCtorEq, eq_self, implies_true, forall_const, false_implies, imp_self, decide_true, decide_false, fix_nil, fix_cons, g2, g3]
  generalize hG4 : (H3.push [.int .i64 0, .slice none 0 0, .slice none 0 0, .int .i64 0, .int .i64 0, .slice none 0 0, .slice none 0 0, .slice none 0 0]).set H3.nxt [.int .i64 1, .slice none 0 0, .slice none 0 0, .int .i64 4, .int .i64 5, .slice none 0 0, c, e] = H4
  have k4 : Keep H3 H4 := by rw [← hG4]; repeat' (first | exact Keep.refl _ | assumption | refine Keep.push' ?_ | refine Keep.set' ?_ ?_ | refine Keep.moved' ?_ ?_ | omega)
  have g4 : H4.get H3.nxt = some (.own [.int .i64 1, .slice none 0 0, .slice none 0 0, .int .i64 4, .int .i64 5, .slice none 0 0, c, e]) := by rw [← hG4, Zbi, if_pos rfl]
  have n4 : H4.nxt = H3.nxt + 1 := by rw [← hG4, Zbh, Zbg]
  have g4b := (k4.get H1.nxt (by omega)).trans g3
  have k14 : Keep H1 H4 := k2.trans (k3.trans k4)
  have r4 := rSidings.rdk (rSidings.ownrd o1) k14
  have o4 := rSidings.ownKeep o3 k4
  refine GO_call ((r_eqDesk (rSidings.ownrd o4) r4 yd_tot).mono ?_)
  rintro _ H5 ⟨k5, rfl⟩
  have n5 := k5.nxt
  have g5 := (k5.get (H3.nxt) (by omega)).trans g4
  have g5b := (k5.get (H1.nxt) (by omega)).trans g4b
  have o5 := rSidings.ownKeep o4 k5
  simp (maxSteps := 4000000) (disch := omega) only [Zq, evO, vbox, wr, Zeq, if_true, if_false, Nat.reduceEqDiff, Nat.reduceAdd, Nat.reduceLeDiff, Nat.reduceSub, and_self, and_true, true_and, reduceIte, reduceCtorEq, eq_self, implies_true, forall_const, false_implies, imp_self, decide_true, decide_false, fix_nil, fix_cons, g2, g3, g4, g4b, g5, g5b]
  refine GO_call ((r_markDesk (k := 1) o5 f3.1 yd_tot (by omega)).mono ?_)
  rintro _ H6 ⟨c6, o6, rfl⟩
  have hG : ∀ a ∈ G, H2.nxt ≤ a ∧ a < H3.nxt := f3.2
  have n6 := c6.nxt
  have g6 := (c6.get H3.nxt (by omega) (fun h => by have := hG _ h; omega)).trans g5
  have g6b := (c6.get H1.nxt (by omega) (fun h => by have := hG _ h; omega)).trans g5b
  have k16 : Keep H1 H6 := c6.keep (k14.trans k5) (fun i hi => by have := hG i hi; omega)
  simp (maxSteps := 4000000) (disch := omega) only [Zq, evO, vbox, wr, Zeq, if_true, if_false, Nat.reduceEqDiff, Nat.reduceAdd, Nat.reduceLeDiff, Nat.reduceSub, and_self, and_true, true_and, reduceIte, reduceCtorEq, eq_self, implies_true, forall_const, false_implies, imp_self, decide_true, decide_false, fix_nil, fix_cons, g2, g3, g4, g4b, g5, g5b, g6, g6b]
  refine GO_call ((r_heldDesk (k := 1) (rSidings.ownrd o6) yd_tot (by omega)).mono ?_)
  rintro _ H7 ⟨k7, rfl⟩
  have n7 := k7.nxt
  have g7 := (k7.get (H3.nxt) (by omega)).trans g6
  have g7b := (k7.get (H1.nxt) (by omega)).trans g6b
  simp (maxSteps := 4000000) (disch := omega) only [Zq, evO, vbox, wr, Zeq, if_true, if_false, Nat.reduceEqDiff, Nat.reduceAdd, Nat.reduceLeDiff, Nat.reduceSub, and_self, and_true, true_and, reduceIte, reduceCtorEq, eq_self, implies_true, forall_const, false_implies, imp_self, decide_true, decide_false, fix_nil, fix_cons, g2, g3, g4, g4b, g5, g5b, g6, g6b, g7, g7b, Zfi hm0]
  refine GO_call ((nd_impl H7).mono ?_)
  rintro _ H8 ⟨k8, x, y, G8, rfl, o8, f8⟩
  have n8 := k8.nxt
  have g8 := (k8.get H3.nxt (by omega)).trans g7
  have g8b := (k8.get H1.nxt (by omega)).trans g7b
  unfold dkV
  simp (maxSteps := 4000000) (disch := omega) only [Zq, evO, vbox, wr, Zeq, if_true, if_false, Nat.reduceEqDiff, Nat.reduceAdd, Nat.reduceLeDiff, Nat.reduceSub, and_self, and_true, true_and, reduceIte, reduceCtorEq, eq_self, implies_true, forall_const, false_implies, imp_self, decide_true, decide_false, fix_nil, fix_cons, g2, g3, g4, g4b, g5, g5b, g6, g6b, g7, g7b, g8, g8b]
  generalize hG9 : (H8.push [.int .i64 0, .slice none 0 0, .slice none 0 0, .int .i64 0, .int .i64 0, .slice none 0 0, .slice none 0 0, .slice none 0 0]).set H8.nxt [.int .i64 1, .slice none 0 0, .slice none 0 0, .int .i64 4, .int .i64 5, .slice none 0 0, x, y] = H9
  have k9 : Keep H8 H9 := by rw [← hG9]; repeat' (first | exact Keep.refl _ | assumption | refine Keep.push' ?_ | refine Keep.set' ?_ ?_ | refine Keep.moved' ?_ ?_ | omega)
  have g9 : H9.get H8.nxt = some (.own [.int .i64 1, .slice none 0 0, .slice none 0 0, .int .i64 4, .int .i64 5, .slice none 0 0, x, y]) := by rw [← hG9, Zbi, if_pos rfl]
  have n9 : H9.nxt = H8.nxt + 1 := by rw [← hG9, Zbh, Zbg]
  have g9b := (k9.get H1.nxt (by omega)).trans g8b
  have g9c := (k9.get H3.nxt (by omega)).trans g8
  have r9 := rSidings.rdk (rSidings.ownrd o1) (k16.trans (k7.trans (k8.trans k9)))
  have s9 := rSidings.rdk (rSidings.ownrd o6) (k7.trans (k8.trans k9))
  refine GO_call ((r_eqDesk (rSidings.ownrd (rSidings.ownKeep o8 k9)) r9 yd_tot).mono ?_)
  rintro _ H10 ⟨k10, rfl⟩
  have n10 := k10.nxt
  have g10 := (k10.get (H8.nxt) (by omega)).trans g9
  have g10b := (k10.get (H1.nxt) (by omega)).trans g9b
  have g10c := (k10.get (H3.nxt) (by omega)).trans g9c
  simp (maxSteps := 4000000) (disch := omega) only [Zq, evO, vbox, wr, Zeq, if_true, if_false, Nat.reduceEqDiff, Nat.reduceAdd, Nat.reduceLeDiff, Nat.reduceSub, and_self, and_true, true_and, reduceIte, reduceCtorEq, eq_self, implies_true, forall_const, false_implies, imp_self, decide_true, decide_false, fix_nil, fix_cons, g2, g3, g4, g4b, g5, g5b, g6, g6b, g7, g7b, g8, g8b, g9, g9b, g9c, g10, g10b, g10c]
  refine GO_call ((r_heldDesk (k := 1) (rSidings.rdk s9 k10) yd_tot (by omega)).mono ?_)
  rintro _ H11 ⟨k11, rfl⟩
  have n11 := k11.nxt
  simp (maxSteps := 4000000) (disch := omega) only [Zq, evO, vbox, wr, Zeq, if_true, if_false, Nat.reduceEqDiff, Nat.reduceAdd, Nat.reduceLeDiff, Nat.reduceSub, and_self, and_true, true_and, reduceIte, reduceCtorEq, eq_self, implies_true, forall_const, false_implies, imp_self, decide_true, decide_false, fix_nil, fix_cons, g2, g3, g4, g4b, g5, g5b, g6, g6b, g7, g7b, g8, g8b, g9, g9b, g9c, g10, g10b, g10c, Zfi hm0]
theorem go_laws_FnExactNewDesk (H : Heap) (xs : List Value) (h : GoodArgs Try.prog H Try.f3.params.toList xs) : ∃ H', CR Try.prog 3 xs H (.bool true) H' := by
  rw [Try.params3] at h
  obtain rfl := good_args_nil h
  obtain ⟨r, H', hr, rfl⟩ := r_laws_FnExactNewDesk H
  exact ⟨H', hr⟩
end Go.Proofs.Ytkadelndmaegdaa.AX
