/- Marks: nets, trips, numbers, runs. No condition beyond each law's own; of the program: the functions' forms. -/
import Derived.Test.YtjjglonmaajjoaaRin
import Derived.Test.YtjjglonmaajjoaaRrun
import Derived.Test.YtjjglonmaajjoaaRnet
namespace Go.Proofs.Ytjjglonmaajjoaa.AX
open Go
set_option maxRecDepth 10000
set_option maxHeartbeats 4000000
set_option linter.unusedSimpArgs false
set_option linter.unusedVariables false
theorem abin_sadd {s t : ByteArray} (h : s.size + t.size ≤ 9223372036854775807) : abin .add (.string s) (.string t) = some (.string (s ++ t)) := by simp [abin, strOp, h]
theorem b2s_one {H : Heap} {p : Nat} {x : Int} (hg : H.get p = some (.own [.int .u8 x])) : vb2s H (.slice (some ⟨p, 0, none⟩) 1 1) = some (.string (strOfNums [x]), H) := by
  simp only [vb2s, byts, hg]
  rfl
theorem mkDigs_zero (out : ByteArray) : mkDigs 0 out = out := by rw [mkDigs, if_pos rfl]
theorem mkDigs_pos {k : Nat} (h : 0 < k) (out : ByteArray) : mkDigs k out = mkDigs (k / 10) (strOfNums [((48 + k % 10 : Nat) : Int)] ++ out) := by
  rw [mkDigs, if_neg (by omega)]
theorem r_markText (k : Nat) (H : Heap) (hk : k ≤ 4611686018427387904) : Run Try.prog 75 [.int .i64 k] H fun r H' => Keep H H' ∧ r = .string (mkText k) := by
  by_cases h0 : (k : Int) ≤ 0
  · refine Run.intro c75 rfl ?_
    simp (maxSteps := 4000000) (disch := omega) only [Zq, evO, vbox, wr, Zeq, if_true, if_false, Nat.reduceEqDiff, Nat.reduceAdd, Nat.reduceLeDiff, Nat.reduceSub, and_self, and_true, true_and, reduceIte, reduceCtorEq, eq_self, implies_true, forall_const, false_implies, imp_self, decide_true, decide_false, x75, Zfj h0]
    exact ⟨Keep.refl _, by rw [mkText, if_pos (by omega)]; rfl⟩
  refine Run.intro c75 rfl ?_
  simp (maxSteps := 4000000) (disch := omega) only [Zq, evO, vbox, wr, Zeq, if_true, if_false, Nat.reduceEqDiff, Nat.reduceAdd, Nat.reduceLeDiff, Nat.reduceSub, and_self, and_true, true_and, reduceIte, reduceCtorEq, eq_self, implies_true, forall_const, false_implies, imp_self, decide_true, decide_false, x75, Zfk h0]
  refine G_loopF [] (k) (fun j T H1 => T 0 = .int .i64 (j : Int) ∧ ∃ out, T 3 = .string out ∧ mkDigs k .empty = mkDigs j out ∧ Keep H H1 ∧ out.size + j ≤ k) ?_ ?_
  · simp (maxSteps := 4000000) (disch := omega) only [Zq, evO, vbox, wr, Zeq, if_true, if_false, Nat.reduceEqDiff, Nat.reduceAdd, Nat.reduceLeDiff, Nat.reduceSub, and_self, and_true, true_and, reduceIte, reduceCtorEq, eq_self, implies_true, forall_const, false_implies, imp_self, decide_true, decide_false, fix_nil, fix_cons]
    exact ⟨_, rfl, rfl, Keep.refl H, Nat.le_of_eq (Nat.zero_add k)⟩
  rintro j T H1 _ ⟨t0, out, t3, e, k1, hjk⟩
  by_cases hj : (0 : Int) < j
  rotate_left
  · obtain rfl : j = 0 := by omega
    have hs : (⟨#[109]⟩ : ByteArray).size = 1 := rfl
    have ha := abin_sadd (s := ⟨#[109]⟩) (t := out) (by omega)
    simp (maxSteps := 4000000) (disch := omega) only [Zq, evO, vbox, wr, Zeq, if_true, if_false, Nat.reduceEqDiff, Nat.reduceAdd, Nat.reduceLeDiff, Nat.reduceSub, and_self, and_true, true_and, reduceIte, reduceCtorEq, eq_self, implies_true, forall_const, false_implies, imp_self, decide_true, decide_false, fix_nil, fix_cons, t0, t3, t0, t3, Zfi hj, ha]
    exact ⟨k1, by rw [mkText, if_neg (by omega), e, mkDigs_zero]; rfl⟩
  have hr : abin .rem (.int .i64 (j : Int)) (.int .i64 10) = some (.int .i64 ((j % 10 : Nat) : Int)) := by
    rw [abin_rem (by decide), Int.tmod_eq_emod_of_nonneg (by omega)]; rfl
  have hd : abin .quo (.int .i64 (j : Int)) (.int .i64 10) = some (.int .i64 ((j / 10 : Nat) : Int)) := by
    rw [abin_quo (by decide), Int.tdiv_eq_ediv_of_nonneg (by omega), wrap64 (by omega) (by omega)]; rfl
  have hw : IntKind.i64.wrap (48 + ((j % 10 : Nat) : Int)) = ((48 + j % 10 : Nat) : Int) := by rw [wrap64 (by omega) (by omega)]; omega
  have hu : IntKind.u8.wrap ((48 + j % 10 : Nat) : Int) = ((48 + j % 10 : Nat) : Int) := by rw [wrap8, Nat.mod_eq_of_lt (by omega)]
  have gp : (H1.push [Value.int .u8 ((48 + j % 10 : Nat) : Int)]).get H1.nxt = some (.own [.int .u8 ((48 + j % 10 : Nat) : Int)]) := by rw [push_get', if_pos rfl]
  have hs : (strOfNums [((48 + j % 10 : Nat) : Int)]).size = 1 := rfl
  have ha := abin_sadd (s := strOfNums [((48 + j % 10 : Nat) : Int)]) (t := out) (by omega)
  simp (maxSteps := 4000000) (disch := omega) only [Zq, evO, vbox, wr, Zeq, if_true, if_false, Nat.reduceEqDiff, Nat.reduceAdd, Nat.reduceLeDiff, Nat.reduceSub, and_self, and_true, true_and, reduceIte, reduceCtorEq, eq_self, implies_true, forall_const, false_implies, imp_self, decide_true, decide_false, fix_nil, fix_cons, t0, t3, t0, t3, Zfh hj, hr, hw, hu, GO_b2s, b2s_one gp, ha, hd]
  exact ⟨j / 10, by omega, rfl, _, rfl, by rw [e, mkDigs_pos (by omega)], k1.trans (Keep.push _ _), by rw [ByteArray.size_append, hs]; omega⟩
def markEdgeSB : X := (.seq (.reg [(.mk (.some 12) (.mov (.tmp 0)) none), (.mk (.some 13) (.mov (.tmp 5)) none), (.mk (.some 14) (.mov (.tmp 1)) none), (.mk (.some 15) (.idx 4 (.tmp 12) (.tmp 13)) none), (.mk (.some 16) (.fad 0 (.tmp 15)) none), (.mk none (.store 1 (.tmp 16) (.tmp 14)) none)]) (.seq (.reg [(.mk (.some 17) (.mov (.tmp 1)) none), (.mk (.some 18) (.bin (.add) (.tmp 17) (.const (.int (.i64) 1))) none), (.mk (.some 1) (.mov (.tmp 18)) none)]) (.seq (.reg [(.mk (.some 19) (.mov (.tmp 0)) none), (.mk (.some 20) (.mov (.tmp 5)) none), (.mk (.some 21) (.mov (.tmp 1)) none), (.mk (.some 22) (.idx 4 (.tmp 19) (.tmp 20)) none), (.mk (.some 23) (.fad 1 (.tmp 22)) none), (.mk none (.store 1 (.tmp 23) (.tmp 21)) none)]) (.seq (.reg [(.mk (.some 24) (.mov (.tmp 1)) none), (.mk (.some 25) (.bin (.add) (.tmp 24) (.const (.int (.i64) 1))) none), (.mk (.some 1) (.mov (.tmp 25)) none)]) (.seq (.reg [(.mk (.some 26) (.mov (.tmp 0)) none), (.mk (.some 27) (.mov (.tmp 5)) none), (.mk (.some 28) (.mov (.tmp 1)) none), (.mk (.some 29) (.idx 4 (.tmp 26) (.tmp 27)) none), (.mk (.some 30) (.fad 2 (.tmp 29)) none), (.mk none (.store 1 (.tmp 30) (.tmp 28)) none)]) (.seq (.reg [(.mk (.some 31) (.mov (.tmp 1)) none), (.mk (.some 32) (.bin (.add) (.tmp 31) (.const (.int (.i64) 1))) none), (.mk (.some 1) (.mov (.tmp 32)) none)]) (.seq (.reg [(.mk (.some 33) (.mov (.tmp 0)) none), (.mk (.some 34) (.mov (.tmp 5)) none), (.mk (.some 35) (.mov (.tmp 1)) none), (.mk (.some 36) (.idx 4 (.tmp 33) (.tmp 34)) none), (.mk (.some 37) (.fad 3 (.tmp 36)) none), (.mk none (.store 1 (.tmp 37) (.tmp 35)) none)]) (.reg [(.mk (.some 38) (.mov (.tmp 1)) none), (.mk (.some 39) (.bin (.add) (.tmp 38) (.const (.int (.i64) 1))) none), (.mk (.some 1) (.mov (.tmp 39)) none)]))))))))
theorem markEdgeSB_is : BMark Try.prog rEdge markEdgeSB := by
  rintro p i n o k P0 Q0 row ⟨x0, x1, x2, x3⟩ F ks Q T H t0 t1 t5 hi hP hp hg hown hnd hpF hk K
  have t0 : T 0 = .slice (some ⟨p, o, none⟩) n 4 := t0
  have hP : P0.length = o + i * 4 := hP
  obtain ⟨e0, e1⟩ : row = [.int .i64 x0, .int .i64 x1, .int .i64 x2, .int .i64 x3] ∧ F = [] := hown
  subst e0 e1
  have s0 : ∀ H1 : Heap, stO H1 1 p (o + i * 4) (.int .i64 ((k : Nat) : Int)) (some (.own (mid P0 [.int .i64 x0, .int .i64 x1, .int .i64 x2, .int .i64 x3] Q0))) = some (undef, H1.set p (mid P0 [.int .i64 ((k : Nat) : Int), .int .i64 x1, .int .i64 x2, .int .i64 x3] Q0)) := fun H1 => by exact stO_mid (B := [.int .i64 x0, .int .i64 x1, .int .i64 x2, .int .i64 x3]) (o := 0) rfl hP (by simp)
  have s1 : ∀ H1 : Heap, stO H1 1 p (o + (i * 4 + 1)) (.int .i64 (((k + 1) : Nat) : Int)) (some (.own (mid P0 [.int .i64 ((k : Nat) : Int), .int .i64 x1, .int .i64 x2, .int .i64 x3] Q0))) = some (undef, H1.set p (mid P0 [.int .i64 ((k : Nat) : Int), .int .i64 (((k + 1) : Nat) : Int), .int .i64 x2, .int .i64 x3] Q0)) := fun H1 => by rw [← Nat.add_assoc]; exact stO_mid (B := [.int .i64 ((k : Nat) : Int), .int .i64 x1, .int .i64 x2, .int .i64 x3]) (o := 1) rfl hP (by simp)
  have s2 : ∀ H1 : Heap, stO H1 1 p (o + (i * 4 + 2)) (.int .i64 ((((k + 1) + 1) : Nat) : Int)) (some (.own (mid P0 [.int .i64 ((k : Nat) : Int), .int .i64 (((k + 1) : Nat) : Int), .int .i64 x2, .int .i64 x3] Q0))) = some (undef, H1.set p (mid P0 [.int .i64 ((k : Nat) : Int), .int .i64 (((k + 1) : Nat) : Int), .int .i64 ((((k + 1) + 1) : Nat) : Int), .int .i64 x3] Q0)) := fun H1 => by rw [← Nat.add_assoc]; exact stO_mid (B := [.int .i64 ((k : Nat) : Int), .int .i64 (((k + 1) : Nat) : Int), .int .i64 x2, .int .i64 x3]) (o := 2) rfl hP (by simp)
  have s3 : ∀ H1 : Heap, stO H1 1 p (o + (i * 4 + 3)) (.int .i64 (((((k + 1) + 1) + 1) : Nat) : Int)) (some (.own (mid P0 [.int .i64 ((k : Nat) : Int), .int .i64 (((k + 1) : Nat) : Int), .int .i64 ((((k + 1) + 1) : Nat) : Int), .int .i64 x3] Q0))) = some (undef, H1.set p (mid P0 [.int .i64 ((k : Nat) : Int), .int .i64 (((k + 1) : Nat) : Int), .int .i64 ((((k + 1) + 1) : Nat) : Int), .int .i64 (((((k + 1) + 1) + 1) : Nat) : Int)] Q0)) := fun H1 => by rw [← Nat.add_assoc]; exact stO_mid (B := [.int .i64 ((k : Nat) : Int), .int .i64 (((k + 1) : Nat) : Int), .int .i64 ((((k + 1) + 1) : Nat) : Int), .int .i64 x3]) (o := 3) rfl hP (by simp)
  have C0 : Chg (p :: ([])) H H := Chg.refl _ _
  simp (maxSteps := 4000000) (disch := omega) only [Zq, evO, vbox, wr, Zeq, if_true, if_false, Nat.reduceEqDiff, Nat.reduceAdd, Nat.reduceLeDiff, Nat.reduceSub, and_self, and_true, true_and, reduceIte, reduceCtorEq, eq_self, implies_true, forall_const, false_implies, imp_self, decide_true, decide_false, markEdgeSB, t0, t1, t5, Zfo hi, Zfo, s0, s1, s2, s3, hg]
  refine K _ _ [.int .i64 ((k : Nat) : Int), .int .i64 (((k + 1) : Nat) : Int), .int .i64 ((((k + 1) + 1) : Nat) : Int), .int .i64 (((((k + 1) + 1) + 1) : Nat) : Int)] ?_ ?_ ?_ ?_ ?_ ⟨rfl, rfl⟩
  · simp (maxSteps := 4000000) (disch := omega) only [Zq, evO, vbox, wr, Zeq, if_true, if_false, Nat.reduceEqDiff, Nat.reduceAdd, Nat.reduceLeDiff, Nat.reduceSub, and_self, and_true, true_and, reduceIte, reduceCtorEq, eq_self, implies_true, forall_const, false_implies, imp_self, decide_true, decide_false, t0]
  · simp (maxSteps := 4000000) (disch := omega) only [Zq, evO, vbox, wr, Zeq, if_true, if_false, Nat.reduceEqDiff, Nat.reduceAdd, Nat.reduceLeDiff, Nat.reduceSub, and_self, and_true, true_and, reduceIte, reduceCtorEq, eq_self, implies_true, forall_const, false_implies, imp_self, decide_true, decide_false, t5]
  · simp (maxSteps := 4000000) (disch := omega) only [Zq, evO, vbox, wr, Zeq, if_true, if_false, Nat.reduceEqDiff, Nat.reduceAdd, Nat.reduceLeDiff, Nat.reduceSub, and_self, and_true, true_and, reduceIte, reduceCtorEq, eq_self, implies_true, forall_const, false_implies, imp_self, decide_true, decide_false, t1]
    try rfl
  · repeat' (first | exact Chg.refl _ _ | refine Chg.trans ?_ (Chg.set (by simp)))
  · simp only [Zbi, if_true]
theorem markEdgeS_is : IsMark Try.prog (rSlc rEdge) (rSlc rEdge).mar 74 := markSlc_is (A := 40) (body := markEdgeSB) c74 marB_Edge markEdgeSB_is
def mNet (x : Int × (List (Int × Int × Int × Int))) (k : Nat) : (Int × (List (Int × Int × Int × Int))) × Nat := ((x.1, ((rSlc rEdge).mar x.2 k).1), ((rSlc rEdge).mar x.2 k).2)
theorem markNet_is : IsMark Try.prog rNet mNet 41 := by
  rintro H cs ⟨x0, x1⟩ F k hown hnd hk
  obtain ⟨v1, F1, rfl, o1, hF⟩ := net_own hown
  subst F
  have nd1 := hnd
  have lt1 := (rSlc rEdge).ownlt o1
  rw [net_tot] at hk
  refine Run.intro c41 rfl ?_
  simp only [net_val]
  simp (maxSteps := 4000000) (disch := omega) only [Zq, evO, vbox, wr, Zeq, if_true, if_false, Nat.reduceEqDiff, Nat.reduceAdd, Nat.reduceLeDiff, Nat.reduceSub, and_self, and_true, true_and, reduceIte, reduceCtorEq, eq_self, implies_true, forall_const, false_implies, imp_self, decide_true, decide_false, x41]
  generalize hG : H.push [.int .i64 x0, v1] = H0
  have K0 : Keep H H0 := by rw [← hG]; exact Keep.push _ _
  have g0 : H0.get H.nxt = some (.own [.int .i64 x0, v1]) := by rw [← hG, push_get', if_pos rfl]
  have n0 : H.nxt < H0.nxt := by rw [← hG, Zbg]; omega
  have o1 := (rSlc rEdge).ownKeep o1 K0
  have C0 : Chg (F1) H H0 := K0.chg
  have b1 := mar_le marB_Edge x1 (k)
  refine GO_call ((markEdgeS_is H0 [v1] x1 F1 (k) o1 nd1 (by omega)).mono ?_)
  rintro _ H1 ⟨c1, o1, rfl⟩
  have n1 := c1.nxt
  have C1 := C0.trans (c1.mono (fun a ha => by exact ha))
  have g1 := (c1.get H.nxt (by omega) (fun hm => by have := lt1 _ hm; omega)).trans g0
  simp (maxSteps := 4000000) (disch := omega) only [Zq, evO, vbox, wr, Zeq, if_true, if_false, Nat.reduceEqDiff, Nat.reduceAdd, Nat.reduceLeDiff, Nat.reduceSub, and_self, and_true, true_and, reduceIte, reduceCtorEq, eq_self, implies_true, forall_const, false_implies, imp_self, decide_true, decide_false, g1]
  exact ⟨C1, net_own' o1, rfl⟩
def markCallSB : X := (.seq (.reg [(.mk (.some 12) (.mov (.tmp 0)) none), (.mk (.some 13) (.mov (.tmp 5)) none), (.mk (.some 14) (.mov (.tmp 1)) none), (.mk (.some 15) (.idx 3 (.tmp 12) (.tmp 13)) none), (.mk (.some 16) (.fad 0 (.tmp 15)) none), (.mk none (.store 1 (.tmp 16) (.tmp 14)) none)]) (.seq (.reg [(.mk (.some 17) (.mov (.tmp 1)) none), (.mk (.some 18) (.bin (.add) (.tmp 17) (.const (.int (.i64) 1))) none), (.mk (.some 1) (.mov (.tmp 18)) none)]) (.seq (.reg [(.mk (.some 19) (.mov (.tmp 0)) none), (.mk (.some 20) (.mov (.tmp 5)) none), (.mk (.some 21) (.mov (.tmp 1)) none), (.mk (.some 22) (.idx 3 (.tmp 19) (.tmp 20)) none), (.mk (.some 23) (.fad 1 (.tmp 22)) none), (.mk none (.store 1 (.tmp 23) (.tmp 21)) none)]) (.seq (.reg [(.mk (.some 24) (.mov (.tmp 1)) none), (.mk (.some 25) (.bin (.add) (.tmp 24) (.const (.int (.i64) 1))) none), (.mk (.some 1) (.mov (.tmp 25)) none)]) (.seq (.reg [(.mk (.some 26) (.mov (.tmp 0)) none), (.mk (.some 27) (.mov (.tmp 5)) none), (.mk (.some 28) (.mov (.tmp 1)) none), (.mk (.some 29) (.idx 3 (.tmp 26) (.tmp 27)) none), (.mk (.some 30) (.fad 2 (.tmp 29)) none), (.mk none (.store 1 (.tmp 30) (.tmp 28)) none)]) (.reg [(.mk (.some 31) (.mov (.tmp 1)) none), (.mk (.some 32) (.bin (.add) (.tmp 31) (.const (.int (.i64) 1))) none), (.mk (.some 1) (.mov (.tmp 32)) none)]))))))
theorem markCallSB_is : BMark Try.prog rCall markCallSB := by
  rintro p i n o k P0 Q0 row ⟨x0, x1, x2⟩ F ks Q T H t0 t1 t5 hi hP hp hg hown hnd hpF hk K
  have t0 : T 0 = .slice (some ⟨p, o, none⟩) n 3 := t0
  have hP : P0.length = o + i * 3 := hP
  obtain ⟨e0, e1⟩ : row = [.int .i64 x0, .int .i64 x1, .int .i64 x2] ∧ F = [] := hown
  subst e0 e1
  have s0 : ∀ H1 : Heap, stO H1 1 p (o + i * 3) (.int .i64 ((k : Nat) : Int)) (some (.own (mid P0 [.int .i64 x0, .int .i64 x1, .int .i64 x2] Q0))) = some (undef, H1.set p (mid P0 [.int .i64 ((k : Nat) : Int), .int .i64 x1, .int .i64 x2] Q0)) := fun H1 => by exact stO_mid (B := [.int .i64 x0, .int .i64 x1, .int .i64 x2]) (o := 0) rfl hP (by simp)
  have s1 : ∀ H1 : Heap, stO H1 1 p (o + (i * 3 + 1)) (.int .i64 (((k + 1) : Nat) : Int)) (some (.own (mid P0 [.int .i64 ((k : Nat) : Int), .int .i64 x1, .int .i64 x2] Q0))) = some (undef, H1.set p (mid P0 [.int .i64 ((k : Nat) : Int), .int .i64 (((k + 1) : Nat) : Int), .int .i64 x2] Q0)) := fun H1 => by rw [← Nat.add_assoc]; exact stO_mid (B := [.int .i64 ((k : Nat) : Int), .int .i64 x1, .int .i64 x2]) (o := 1) rfl hP (by simp)
  have s2 : ∀ H1 : Heap, stO H1 1 p (o + (i * 3 + 2)) (.int .i64 ((((k + 1) + 1) : Nat) : Int)) (some (.own (mid P0 [.int .i64 ((k : Nat) : Int), .int .i64 (((k + 1) : Nat) : Int), .int .i64 x2] Q0))) = some (undef, H1.set p (mid P0 [.int .i64 ((k : Nat) : Int), .int .i64 (((k + 1) : Nat) : Int), .int .i64 ((((k + 1) + 1) : Nat) : Int)] Q0)) := fun H1 => by rw [← Nat.add_assoc]; exact stO_mid (B := [.int .i64 ((k : Nat) : Int), .int .i64 (((k + 1) : Nat) : Int), .int .i64 x2]) (o := 2) rfl hP (by simp)
  have C0 : Chg (p :: ([])) H H := Chg.refl _ _
  simp (maxSteps := 4000000) (disch := omega) only [Zq, evO, vbox, wr, Zeq, if_true, if_false, Nat.reduceEqDiff, Nat.reduceAdd, Nat.reduceLeDiff, Nat.reduceSub, and_self, and_true, true_and, reduceIte, reduceCtorEq, eq_self, implies_true, forall_const, false_implies, imp_self, decide_true, decide_false, markCallSB, t0, t1, t5, Zfo hi, Zfo, s0, s1, s2, hg]
  refine K _ _ [.int .i64 ((k : Nat) : Int), .int .i64 (((k + 1) : Nat) : Int), .int .i64 ((((k + 1) + 1) : Nat) : Int)] ?_ ?_ ?_ ?_ ?_ ⟨rfl, rfl⟩
  · simp (maxSteps := 4000000) (disch := omega) only [Zq, evO, vbox, wr, Zeq, if_true, if_false, Nat.reduceEqDiff, Nat.reduceAdd, Nat.reduceLeDiff, Nat.reduceSub, and_self, and_true, true_and, reduceIte, reduceCtorEq, eq_self, implies_true, forall_const, false_implies, imp_self, decide_true, decide_false, t0]
  · simp (maxSteps := 4000000) (disch := omega) only [Zq, evO, vbox, wr, Zeq, if_true, if_false, Nat.reduceEqDiff, Nat.reduceAdd, Nat.reduceLeDiff, Nat.reduceSub, and_self, and_true, true_and, reduceIte, reduceCtorEq, eq_self, implies_true, forall_const, false_implies, imp_self, decide_true, decide_false, t5]
  · simp (maxSteps := 4000000) (disch := omega) only [Zq, evO, vbox, wr, Zeq, if_true, if_false, Nat.reduceEqDiff, Nat.reduceAdd, Nat.reduceLeDiff, Nat.reduceSub, and_self, and_true, true_and, reduceIte, reduceCtorEq, eq_self, implies_true, forall_const, false_implies, imp_self, decide_true, decide_false, t1]
    try rfl
  · repeat' (first | exact Chg.refl _ _ | refine Chg.trans ?_ (Chg.set (by simp)))
  · simp only [Zbi, if_true]
theorem markCallS_is : IsMark Try.prog (rSlc rCall) (rSlc rCall).mar 76 := markSlc_is (A := 33) (body := markCallSB) c76 marB_Call markCallSB_is
def markTripSB : X := (.seq (.reg [(.mk (.some 12) (.mov (.tmp 0)) none), (.mk (.some 13) (.mov (.tmp 5)) none), (.mk (.some 14) (.mov (.tmp 1)) none), (.mk (.some 15) (.call 75 [(.tmp 14)]) none), (.mk (.some 16) (.idx 2 (.tmp 12) (.tmp 13)) none), (.mk (.some 17) (.fad 0 (.tmp 16)) none), (.mk none (.store 1 (.tmp 17) (.tmp 15)) none)]) (.seq (.reg [(.mk (.some 18) (.mov (.tmp 1)) none), (.mk (.some 19) (.bin (.add) (.tmp 18) (.const (.int (.i64) 1))) none), (.mk (.some 1) (.mov (.tmp 19)) none)]) (.reg [(.mk (.some 20) (.mov (.tmp 0)) none), (.mk (.some 21) (.mov (.tmp 5)) none), (.mk (.some 22) (.idx 2 (.tmp 20) (.tmp 21)) none), (.mk (.some 23) (.fad 1 (.tmp 22)) none), (.mk (.some 24) (.load1 (.tmp 23)) none), (.mk (.some 25) (.mov (.tmp 1)) none), (.mk (.some 26) (.call 76 [(.tmp 24), (.tmp 25)]) none), (.mk (.some 1) (.mov (.tmp 26)) none)])))
theorem markTripSB_is : BMark Try.prog rTrip markTripSB := by
  rintro p i n o k P0 Q0 row ⟨x0, x1⟩ F ks Q T H t0 t1 t5 hi hP hp hg hown hnd hpF hk K
  have t0 : T 0 = .slice (some ⟨p, o, none⟩) n 2 := t0
  have hP : P0.length = o + i * 2 := hP
  obtain ⟨w1, F1, rfl, o1, hF⟩ := trip_own hown
  subst F
  have nd1 := hnd
  rw [trip_tot] at hk
  have lt1 := (rSlc rCall).ownlt o1
  have hp1 : p ∉ F1 := fun h => hpF (by exact h)
  have s0 : ∀ H1 : Heap, stO H1 1 p (o + i * 2) (.string (mkText k)) (some (.own (mid P0 [.string x0, w1] Q0))) = some (undef, H1.set p (mid P0 [.string (mkText k), w1] Q0)) := fun H1 => by exact stO_mid (B := [.string x0, w1]) (o := 0) rfl hP (by simp)
  have q1 : (mid P0 [.string (mkText k), w1] Q0)[o + (i * 2 + 1)]? = some w1 := by rw [← Nat.add_assoc]; exact mid_get (B := [.string (mkText k), w1]) (o := 1) hP rfl
  simp (maxSteps := 4000000) (disch := omega) only [Zq, evO, vbox, wr, Zeq, if_true, if_false, Nat.reduceEqDiff, Nat.reduceAdd, Nat.reduceLeDiff, Nat.reduceSub, and_self, and_true, true_and, reduceIte, reduceCtorEq, eq_self, implies_true, forall_const, false_implies, imp_self, decide_true, decide_false, markTripSB, t0, t1, t5, Zfo hi, Zfo, hg]
  refine GO_call ((r_markText k H (by omega)).mono ?_)
  rintro _ H0 ⟨k0, rfl⟩
  have n0 := k0.nxt
  have g0 := (k0.get p hp).trans hg
  have o1 := (rSlc rCall).ownKeep o1 k0
  have C0 : Chg (p :: (F1)) H H0 := k0.chg
  simp (maxSteps := 4000000) (disch := omega) only [Zq, evO, vbox, wr, Zeq, if_true, if_false, Nat.reduceEqDiff, Nat.reduceAdd, Nat.reduceLeDiff, Nat.reduceSub, and_self, and_true, true_and, reduceIte, reduceCtorEq, eq_self, implies_true, forall_const, false_implies, imp_self, decide_true, decide_false, t0, t1, t5, Zfo hi, Zfo, s0, q1, g0]
  have b1 := mar_le marB_Call x1 ((k + 1))
  generalize hE0 : H0.set p (mid P0 [.string (mkText k), w1] Q0) = E0
  have c0E : Chg (p :: (F1)) H0 E0 := by
    rw [← hE0]
    repeat' (first | exact Chg.refl _ _ | refine Chg.trans ?_ (Chg.set (by simp)))
  have gE0 : E0.get p = some (.own (mid P0 [.string (mkText k), w1] Q0)) := by rw [← hE0, Zbi, if_pos rfl]
  have nE0 : H0.nxt ≤ E0.nxt := c0E.nxt
  have o1 := (rSlc rCall).ownk o1 c0E.nxt (fun a ha => by rw [← hE0]; simp only [Zbi]; rw [if_neg (fun h => by subst h; exact hp1 ha)])
  have C0E := C0.trans c0E
  refine GO_call ((markCallS_is E0 [w1] x1 F1 ((k + 1)) o1 nd1 (by omega)).mono ?_)
  rintro _ H1 ⟨c1, o1, rfl⟩
  have g1 := (c1.get p (by have := c1.nxt; have := C0E.nxt; omega) hp1).trans gE0
  have C1 := C0E.trans (c1.mono (F' := p :: (F1)) (fun a ha => by simp [ha]))
  simp (maxSteps := 4000000) (disch := omega) only [Zq, evO, vbox, wr, Zeq, if_true, if_false, Nat.reduceEqDiff, Nat.reduceAdd, Nat.reduceLeDiff, Nat.reduceSub, and_self, and_true, true_and, reduceIte, reduceCtorEq, eq_self, implies_true, forall_const, false_implies, imp_self, decide_true, decide_false, t0, t1, t5, Zfo hi, Zfo, s0, q1, g1]
  refine K _ _ [.string (mkText k), w1] ?_ ?_ ?_ C1 g1 (trip_own' o1)
  · simp (maxSteps := 4000000) (disch := omega) only [Zq, evO, vbox, wr, Zeq, if_true, if_false, Nat.reduceEqDiff, Nat.reduceAdd, Nat.reduceLeDiff, Nat.reduceSub, and_self, and_true, true_and, reduceIte, reduceCtorEq, eq_self, implies_true, forall_const, false_implies, imp_self, decide_true, decide_false, t0]
  · simp (maxSteps := 4000000) (disch := omega) only [Zq, evO, vbox, wr, Zeq, if_true, if_false, Nat.reduceEqDiff, Nat.reduceAdd, Nat.reduceLeDiff, Nat.reduceSub, and_self, and_true, true_and, reduceIte, reduceCtorEq, eq_self, implies_true, forall_const, false_implies, imp_self, decide_true, decide_false, t5]
  · simp (maxSteps := 4000000) (disch := omega) only [Zq, evO, vbox, wr, Zeq, if_true, if_false, Nat.reduceEqDiff, Nat.reduceAdd, Nat.reduceLeDiff, Nat.reduceSub, and_self, and_true, true_and, reduceIte, reduceCtorEq, eq_self, implies_true, forall_const, false_implies, imp_self, decide_true, decide_false, t1]
    try rfl
theorem markTripS_is : IsMark Try.prog (rSlc rTrip) (rSlc rTrip).mar 42 := markSlc_is (A := 27) (body := markTripSB) c42 marB_Trip markTripSB_is
theorem markIntS_is : IsMark Try.prog (rSlc rInt) (rSlc rInt).mar 43 := markMarkInt_is c43
def markRunSB : X := (.seq (.reg [(.mk (.some 12) (.mov (.tmp 0)) none), (.mk (.some 13) (.mov (.tmp 5)) none), (.mk (.some 14) (.mov (.tmp 1)) none), (.mk (.some 15) (.idx 4 (.tmp 12) (.tmp 13)) none), (.mk (.some 16) (.fad 0 (.tmp 15)) none), (.mk none (.store 1 (.tmp 16) (.tmp 14)) none)]) (.seq (.reg [(.mk (.some 17) (.mov (.tmp 1)) none), (.mk (.some 18) (.bin (.add) (.tmp 17) (.const (.int (.i64) 1))) none), (.mk (.some 1) (.mov (.tmp 18)) none)]) (.seq (.reg [(.mk (.some 19) (.mov (.tmp 0)) none), (.mk (.some 20) (.mov (.tmp 5)) none), (.mk (.some 21) (.mov (.tmp 1)) none), (.mk (.some 22) (.idx 4 (.tmp 19) (.tmp 20)) none), (.mk (.some 23) (.fad 1 (.tmp 22)) none), (.mk none (.store 1 (.tmp 23) (.tmp 21)) none)]) (.seq (.reg [(.mk (.some 24) (.mov (.tmp 1)) none), (.mk (.some 25) (.bin (.add) (.tmp 24) (.const (.int (.i64) 1))) none), (.mk (.some 1) (.mov (.tmp 25)) none)]) (.seq (.reg [(.mk (.some 26) (.mov (.tmp 0)) none), (.mk (.some 27) (.mov (.tmp 5)) none), (.mk (.some 28) (.mov (.tmp 1)) none), (.mk (.some 29) (.idx 4 (.tmp 26) (.tmp 27)) none), (.mk (.some 30) (.fad 2 (.tmp 29)) none), (.mk none (.store 1 (.tmp 30) (.tmp 28)) none)]) (.seq (.reg [(.mk (.some 31) (.mov (.tmp 1)) none), (.mk (.some 32) (.bin (.add) (.tmp 31) (.const (.int (.i64) 1))) none), (.mk (.some 1) (.mov (.tmp 32)) none)]) (.seq (.reg [(.mk (.some 33) (.mov (.tmp 0)) none), (.mk (.some 34) (.mov (.tmp 5)) none), (.mk (.some 35) (.mov (.tmp 1)) none), (.mk (.some 36) (.idx 4 (.tmp 33) (.tmp 34)) none), (.mk (.some 37) (.fad 3 (.tmp 36)) none), (.mk none (.store 1 (.tmp 37) (.tmp 35)) none)]) (.reg [(.mk (.some 38) (.mov (.tmp 1)) none), (.mk (.some 39) (.bin (.add) (.tmp 38) (.const (.int (.i64) 1))) none), (.mk (.some 1) (.mov (.tmp 39)) none)]))))))))
theorem markRunSB_is : BMark Try.prog rRun markRunSB := by
  rintro p i n o k P0 Q0 row ⟨x0, x1, x2, x3⟩ F ks Q T H t0 t1 t5 hi hP hp hg hown hnd hpF hk K
  have t0 : T 0 = .slice (some ⟨p, o, none⟩) n 4 := t0
  have hP : P0.length = o + i * 4 := hP
  obtain ⟨e0, e1⟩ : row = [.int .i64 x0, .int .i64 x1, .int .i64 x2, .int .i64 x3] ∧ F = [] := hown
  subst e0 e1
  have s0 : ∀ H1 : Heap, stO H1 1 p (o + i * 4) (.int .i64 ((k : Nat) : Int)) (some (.own (mid P0 [.int .i64 x0, .int .i64 x1, .int .i64 x2, .int .i64 x3] Q0))) = some (undef, H1.set p (mid P0 [.int .i64 ((k : Nat) : Int), .int .i64 x1, .int .i64 x2, .int .i64 x3] Q0)) := fun H1 => by exact stO_mid (B := [.int .i64 x0, .int .i64 x1, .int .i64 x2, .int .i64 x3]) (o := 0) rfl hP (by simp)
  have s1 : ∀ H1 : Heap, stO H1 1 p (o + (i * 4 + 1)) (.int .i64 (((k + 1) : Nat) : Int)) (some (.own (mid P0 [.int .i64 ((k : Nat) : Int), .int .i64 x1, .int .i64 x2, .int .i64 x3] Q0))) = some (undef, H1.set p (mid P0 [.int .i64 ((k : Nat) : Int), .int .i64 (((k + 1) : Nat) : Int), .int .i64 x2, .int .i64 x3] Q0)) := fun H1 => by rw [← Nat.add_assoc]; exact stO_mid (B := [.int .i64 ((k : Nat) : Int), .int .i64 x1, .int .i64 x2, .int .i64 x3]) (o := 1) rfl hP (by simp)
  have s2 : ∀ H1 : Heap, stO H1 1 p (o + (i * 4 + 2)) (.int .i64 ((((k + 1) + 1) : Nat) : Int)) (some (.own (mid P0 [.int .i64 ((k : Nat) : Int), .int .i64 (((k + 1) : Nat) : Int), .int .i64 x2, .int .i64 x3] Q0))) = some (undef, H1.set p (mid P0 [.int .i64 ((k : Nat) : Int), .int .i64 (((k + 1) : Nat) : Int), .int .i64 ((((k + 1) + 1) : Nat) : Int), .int .i64 x3] Q0)) := fun H1 => by rw [← Nat.add_assoc]; exact stO_mid (B := [.int .i64 ((k : Nat) : Int), .int .i64 (((k + 1) : Nat) : Int), .int .i64 x2, .int .i64 x3]) (o := 2) rfl hP (by simp)
  have s3 : ∀ H1 : Heap, stO H1 1 p (o + (i * 4 + 3)) (.int .i64 (((((k + 1) + 1) + 1) : Nat) : Int)) (some (.own (mid P0 [.int .i64 ((k : Nat) : Int), .int .i64 (((k + 1) : Nat) : Int), .int .i64 ((((k + 1) + 1) : Nat) : Int), .int .i64 x3] Q0))) = some (undef, H1.set p (mid P0 [.int .i64 ((k : Nat) : Int), .int .i64 (((k + 1) : Nat) : Int), .int .i64 ((((k + 1) + 1) : Nat) : Int), .int .i64 (((((k + 1) + 1) + 1) : Nat) : Int)] Q0)) := fun H1 => by rw [← Nat.add_assoc]; exact stO_mid (B := [.int .i64 ((k : Nat) : Int), .int .i64 (((k + 1) : Nat) : Int), .int .i64 ((((k + 1) + 1) : Nat) : Int), .int .i64 x3]) (o := 3) rfl hP (by simp)
  have C0 : Chg (p :: ([])) H H := Chg.refl _ _
  simp (maxSteps := 4000000) (disch := omega) only [Zq, evO, vbox, wr, Zeq, if_true, if_false, Nat.reduceEqDiff, Nat.reduceAdd, Nat.reduceLeDiff, Nat.reduceSub, and_self, and_true, true_and, reduceIte, reduceCtorEq, eq_self, implies_true, forall_const, false_implies, imp_self, decide_true, decide_false, markRunSB, t0, t1, t5, Zfo hi, Zfo, s0, s1, s2, s3, hg]
  refine K _ _ [.int .i64 ((k : Nat) : Int), .int .i64 (((k + 1) : Nat) : Int), .int .i64 ((((k + 1) + 1) : Nat) : Int), .int .i64 (((((k + 1) + 1) + 1) : Nat) : Int)] ?_ ?_ ?_ ?_ ?_ ⟨rfl, rfl⟩
  · simp (maxSteps := 4000000) (disch := omega) only [Zq, evO, vbox, wr, Zeq, if_true, if_false, Nat.reduceEqDiff, Nat.reduceAdd, Nat.reduceLeDiff, Nat.reduceSub, and_self, and_true, true_and, reduceIte, reduceCtorEq, eq_self, implies_true, forall_const, false_implies, imp_self, decide_true, decide_false, t0]
  · simp (maxSteps := 4000000) (disch := omega) only [Zq, evO, vbox, wr, Zeq, if_true, if_false, Nat.reduceEqDiff, Nat.reduceAdd, Nat.reduceLeDiff, Nat.reduceSub, and_self, and_true, true_and, reduceIte, reduceCtorEq, eq_self, implies_true, forall_const, false_implies, imp_self, decide_true, decide_false, t5]
  · simp (maxSteps := 4000000) (disch := omega) only [Zq, evO, vbox, wr, Zeq, if_true, if_false, Nat.reduceEqDiff, Nat.reduceAdd, Nat.reduceLeDiff, Nat.reduceSub, and_self, and_true, true_and, reduceIte, reduceCtorEq, eq_self, implies_true, forall_const, false_implies, imp_self, decide_true, decide_false, t1]
    try rfl
  · repeat' (first | exact Chg.refl _ _ | refine Chg.trans ?_ (Chg.set (by simp)))
  · simp only [Zbi, if_true]
theorem markRunS_is : IsMark Try.prog (rSlc rRun) (rSlc rRun).mar 46 := markSlc_is (A := 40) (body := markRunSB) c46 marB_Run markRunSB_is
def heldRunSB : X := (.seq (.seq (.reg [(.mk (.some 12) (.mov (.tmp 0)) none), (.mk (.some 13) (.mov (.tmp 5)) none), (.mk (.some 14) (.idx 4 (.tmp 12) (.tmp 13)) none), (.mk (.some 15) (.fad 0 (.tmp 14)) none), (.mk (.some 16) (.load1 (.tmp 15)) none), (.mk (.some 17) (.mov (.tmp 1)) none), (.mk (.some 18) (.bin (.neq) (.tmp 16) (.tmp 17)) none)]) (.cond (.tmp 18) (.seq (.reg [(.mk (.some 4) (.mov (.const (.int (.i64) (-1)))) none)]) (.ret)) (.skip))) (.seq (.reg [(.mk (.some 19) (.mov (.tmp 1)) none), (.mk (.some 20) (.bin (.add) (.tmp 19) (.const (.int (.i64) 1))) none), (.mk (.some 1) (.mov (.tmp 20)) none)]) (.seq (.seq (.reg [(.mk (.some 21) (.mov (.tmp 0)) none), (.mk (.some 22) (.mov (.tmp 5)) none), (.mk (.some 23) (.idx 4 (.tmp 21) (.tmp 22)) none), (.mk (.some 24) (.fad 1 (.tmp 23)) none), (.mk (.some 25) (.load1 (.tmp 24)) none), (.mk (.some 26) (.mov (.tmp 1)) none), (.mk (.some 27) (.bin (.neq) (.tmp 25) (.tmp 26)) none)]) (.cond (.tmp 27) (.seq (.reg [(.mk (.some 4) (.mov (.const (.int (.i64) (-1)))) none)]) (.ret)) (.skip))) (.seq (.reg [(.mk (.some 28) (.mov (.tmp 1)) none), (.mk (.some 29) (.bin (.add) (.tmp 28) (.const (.int (.i64) 1))) none), (.mk (.some 1) (.mov (.tmp 29)) none)]) (.seq (.seq (.reg [(.mk (.some 30) (.mov (.tmp 0)) none), (.mk (.some 31) (.mov (.tmp 5)) none), (.mk (.some 32) (.idx 4 (.tmp 30) (.tmp 31)) none), (.mk (.some 33) (.fad 2 (.tmp 32)) none), (.mk (.some 34) (.load1 (.tmp 33)) none), (.mk (.some 35) (.mov (.tmp 1)) none), (.mk (.some 36) (.bin (.neq) (.tmp 34) (.tmp 35)) none)]) (.cond (.tmp 36) (.seq (.reg [(.mk (.some 4) (.mov (.const (.int (.i64) (-1)))) none)]) (.ret)) (.skip))) (.seq (.reg [(.mk (.some 37) (.mov (.tmp 1)) none), (.mk (.some 38) (.bin (.add) (.tmp 37) (.const (.int (.i64) 1))) none), (.mk (.some 1) (.mov (.tmp 38)) none)]) (.seq (.seq (.reg [(.mk (.some 39) (.mov (.tmp 0)) none), (.mk (.some 40) (.mov (.tmp 5)) none), (.mk (.some 41) (.idx 4 (.tmp 39) (.tmp 40)) none), (.mk (.some 42) (.fad 3 (.tmp 41)) none), (.mk (.some 43) (.load1 (.tmp 42)) none), (.mk (.some 44) (.mov (.tmp 1)) none), (.mk (.some 45) (.bin (.neq) (.tmp 43) (.tmp 44)) none)]) (.cond (.tmp 45) (.seq (.reg [(.mk (.some 4) (.mov (.const (.int (.i64) (-1)))) none)]) (.ret)) (.skip))) (.reg [(.mk (.some 46) (.mov (.tmp 1)) none), (.mk (.some 47) (.bin (.add) (.tmp 46) (.const (.int (.i64) 1))) none), (.mk (.some 1) (.mov (.tmp 47)) none)]))))))))
theorem heldRunSB_is : BHeld Try.prog rRun heldRunSB := by
  rintro v i n k cs ⟨x0, x1, x2, x3⟩ ks Q T H t0 t1 t5 hi hs hrd hk K
  have hs4 : Sl H v 4 n cs := hs
  have hrow : (cs.drop (i * 4)).take 4 = [.int .i64 ((k + 0 : Nat) : Int), .int .i64 ((k + 1 : Nat) : Int), .int .i64 ((k + 2 : Nat) : Int), .int .i64 ((k + 3 : Nat) : Int)] := hrd
  have q0 : cs[i * 4 + 0]? = some (.int .i64 ((k + 0 : Nat) : Int)) := row_get hrow (by omega) rfl
  have l0_0 := Sl.ld hs4 hi q0
  have q1 : cs[i * 4 + 1]? = some (.int .i64 ((k + 1 : Nat) : Int)) := row_get hrow (by omega) rfl
  have l1_0 := Sl.ld hs4 hi q1
  have q2 : cs[i * 4 + 2]? = some (.int .i64 ((k + 2 : Nat) : Int)) := row_get hrow (by omega) rfl
  have l2_0 := Sl.ld hs4 hi q2
  have q3 : cs[i * 4 + 3]? = some (.int .i64 ((k + 3 : Nat) : Int)) := row_get hrow (by omega) rfl
  have l3_0 := Sl.ld hs4 hi q3
  have K0 : Keep H H := Keep.refl H
  simp (maxSteps := 4000000) (disch := omega) only [Zq, evO, vbox, wr, Zeq, if_true, if_false, Nat.reduceEqDiff, Nat.reduceAdd, Nat.reduceLeDiff, Nat.reduceSub, and_self, and_true, true_and, reduceIte, reduceCtorEq, eq_self, implies_true, forall_const, false_implies, imp_self, decide_true, decide_false, heldRunSB, t0, t1, t5, Sl.len_ hs4, Sl.idx hs4 hi, Sl.fad hs4 hi, l0_0, l1_0, l2_0, l3_0]
  refine K _ _ ?_ ?_ ?_ K0
  · simp (maxSteps := 4000000) (disch := omega) only [Zq, evO, vbox, wr, Zeq, if_true, if_false, Nat.reduceEqDiff, Nat.reduceAdd, Nat.reduceLeDiff, Nat.reduceSub, and_self, and_true, true_and, reduceIte, reduceCtorEq, eq_self, implies_true, forall_const, false_implies, imp_self, decide_true, decide_false, t0]
  · simp (maxSteps := 4000000) (disch := omega) only [Zq, evO, vbox, wr, Zeq, if_true, if_false, Nat.reduceEqDiff, Nat.reduceAdd, Nat.reduceLeDiff, Nat.reduceSub, and_self, and_true, true_and, reduceIte, reduceCtorEq, eq_self, implies_true, forall_const, false_implies, imp_self, decide_true, decide_false, t5]
  · simp (maxSteps := 4000000) (disch := omega) only [Zq, evO, vbox, wr, Zeq, if_true, if_false, Nat.reduceEqDiff, Nat.reduceAdd, Nat.reduceLeDiff, Nat.reduceSub, and_self, and_true, true_and, reduceIte, reduceCtorEq, eq_self, implies_true, forall_const, false_implies, imp_self, decide_true, decide_false, t1]
    try rfl
theorem heldRunS_is : IsHeld Try.prog (rSlc rRun) (rSlc rRun).mar 47 := heldSlc_is (A := 48) (body := heldRunSB) c47 marB_Run heldRunSB_is
end Go.Proofs.Ytjjglonmaajjoaa.AX
