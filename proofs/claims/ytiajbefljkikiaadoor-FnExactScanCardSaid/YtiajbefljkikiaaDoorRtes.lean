/- Lists of telegrams: what the laws' helpers do. No condition beyond each law's own; of the program: the functions' forms. -/
import Derived.Test.YtiajbefljkikiaaDoorRtel
namespace Go.Proofs.YtiajbefljkikiaaDoor.AX
open Go
set_option maxRecDepth 10000
set_option maxHeartbeats 4000000
set_option linter.unusedSimpArgs false
set_option linter.unusedVariables false
-- Telegram
def markTelegramSB : X := (.seq (.reg [(.mk (.some 12) (.mov (.tmp 0)) none), (.mk (.some 13) (.mov (.tmp 5)) none), (.mk (.some 14) (.mov (.tmp 1)) none), (.mk (.some 15) (.idx 3 (.tmp 12) (.tmp 13)) none), (.mk (.some 16) (.fad 0 (.tmp 15)) none), (.mk none (.store 1 (.tmp 16) (.tmp 14)) none)]) (.seq (.reg [(.mk (.some 17) (.mov (.tmp 1)) none), (.mk (.some 18) (.bin (.add) (.tmp 17) (.const (.int (.i64) 1))) none), (.mk (.some 1) (.mov (.tmp 18)) none)]) (.seq (.reg [(.mk (.some 19) (.mov (.tmp 0)) none), (.mk (.some 20) (.mov (.tmp 5)) none), (.mk (.some 21) (.mov (.tmp 1)) none), (.mk (.some 22) (.idx 3 (.tmp 19) (.tmp 20)) none), (.mk (.some 23) (.fad 1 (.tmp 22)) none), (.mk none (.store 1 (.tmp 23) (.tmp 21)) none)]) (.seq (.reg [(.mk (.some 24) (.mov (.tmp 1)) none), (.mk (.some 25) (.bin (.add) (.tmp 24) (.const (.int (.i64) 1))) none), (.mk (.some 1) (.mov (.tmp 25)) none)]) (.reg [(.mk (.some 26) (.mov (.tmp 0)) none), (.mk (.some 27) (.mov (.tmp 5)) none), (.mk (.some 28) (.idx 3 (.tmp 26) (.tmp 27)) none), (.mk (.some 29) (.fad 2 (.tmp 28)) none), (.mk (.some 30) (.load1 (.tmp 29)) none), (.mk (.some 31) (.mov (.tmp 1)) none), (.mk (.some 32) (.call 20 [(.tmp 30), (.tmp 31)]) none), (.mk (.some 1) (.mov (.tmp 32)) none)])))))
theorem markTelegramSB_is : BMark Tryd.prog rTelegram markTelegramSB := by
  rintro p i n o k P0 Q0 row ⟨x0, x1, x2⟩ F ks Q T H t0 t1 t5 hi hP hp hg hown hnd hpF hk K
  have t0 : T 0 = .slice (some ⟨p, o, none⟩) n 3 := t0
  have hP : P0.length = o + i * 3 := hP
  obtain ⟨w2, F2, rfl, o2, hF⟩ := telegram_own hown
  subst F
  have nd2 := hnd
  rw [telegram_tot] at hk
  have lt2 := (rSlc rByte).ownlt o2
  have hp2 : p ∉ F2 := fun h => hpF (by exact h)
  have s0 : ∀ H1 : Heap, stO H1 1 p (o + i * 3) (.int .i64 ((k : Nat) : Int)) (some (.own (mid P0 [.int .i64 x0, .int .i64 x1, w2] Q0))) = some (undef, H1.set p (mid P0 [.int .i64 ((k : Nat) : Int), .int .i64 x1, w2] Q0)) := fun H1 => by exact stO_mid (B := [.int .i64 x0, .int .i64 x1, w2]) (o := 0) rfl hP (by simp)
  have s1 : ∀ H1 : Heap, stO H1 1 p (o + (i * 3 + 1)) (.int .i64 (((k + 1) : Nat) : Int)) (some (.own (mid P0 [.int .i64 ((k : Nat) : Int), .int .i64 x1, w2] Q0))) = some (undef, H1.set p (mid P0 [.int .i64 ((k : Nat) : Int), .int .i64 (((k + 1) : Nat) : Int), w2] Q0)) := fun H1 => by rw [← Nat.add_assoc]; exact stO_mid (B := [.int .i64 ((k : Nat) : Int), .int .i64 x1, w2]) (o := 1) rfl hP (by simp)
  have q2 : (mid P0 [.int .i64 ((k : Nat) : Int), .int .i64 (((k + 1) : Nat) : Int), w2] Q0)[o + (i * 3 + 2)]? = some w2 := by rw [← Nat.add_assoc]; exact mid_get (B := [.int .i64 ((k : Nat) : Int), .int .i64 (((k + 1) : Nat) : Int), w2]) (o := 2) hP rfl
  have C0 : Chg (p :: (F2)) H H := Chg.refl _ _
  simp (maxSteps := 4000000) (disch := omega) only [Zq, evO, vbox, wr, Zeq, if_true, if_false, Nat.reduceEqDiff, Nat.reduceAdd, Nat.reduceLeDiff, Nat.reduceSub, and_self, and_true, true_and, reduceIte, reduceCtorEq, eq_self, implies_true, forall_const, false_implies, imp_self, decide_true, decide_false, markTelegramSB, t0, t1, t5, Zfo hi, Zfo, s0, s1, q2, hg]
  have b2 := mar_le MarB.byte x2 (((k + 1) + 1))
  generalize hE0 : (H.set p (mid P0 [.int .i64 ((k : Nat) : Int), .int .i64 x1, w2] Q0)).set p (mid P0 [.int .i64 ((k : Nat) : Int), .int .i64 (((k + 1) : Nat) : Int), w2] Q0) = E0
  have c0E : Chg (p :: (F2)) H E0 := by
    rw [← hE0]
    repeat' (first | exact Chg.refl _ _ | refine Chg.trans ?_ (Chg.set (by simp)))
  have gE0 : E0.get p = some (.own (mid P0 [.int .i64 ((k : Nat) : Int), .int .i64 (((k + 1) : Nat) : Int), w2] Q0)) := by rw [← hE0, Zbi, if_pos rfl]
  have nE0 : H.nxt ≤ E0.nxt := c0E.nxt
  have o2 := (rSlc rByte).ownk o2 c0E.nxt (fun a ha => by rw [← hE0]; simp only [Zbi]; rw [if_neg (fun h => by subst h; exact hp2 ha), if_neg (fun h => by subst h; exact hp2 ha)])
  have C0E := C0.trans c0E
  refine GO_call ((markByteS_is E0 [w2] x2 F2 (((k + 1) + 1)) o2 nd2 (by omega)).mono ?_)
  rintro _ H1 ⟨c1, o2, rfl⟩
  have g1 := (c1.get p (by have := c1.nxt; have := C0E.nxt; omega) hp2).trans gE0
  have C1 := C0E.trans (c1.mono (F' := p :: (F2)) (fun a ha => by simp [ha]))
  simp (maxSteps := 4000000) (disch := omega) only [Zq, evO, vbox, wr, Zeq, if_true, if_false, Nat.reduceEqDiff, Nat.reduceAdd, Nat.reduceLeDiff, Nat.reduceSub, and_self, and_true, true_and, reduceIte, reduceCtorEq, eq_self, implies_true, forall_const, false_implies, imp_self, decide_true, decide_false, t0, t1, t5, Zfo hi, Zfo, s0, s1, q2, g1]
  refine K _ _ [.int .i64 ((k : Nat) : Int), .int .i64 (((k + 1) : Nat) : Int), w2] ?_ ?_ ?_ C1 g1 (telegram_own' o2)
  · simp (maxSteps := 4000000) (disch := omega) only [Zq, evO, vbox, wr, Zeq, if_true, if_false, Nat.reduceEqDiff, Nat.reduceAdd, Nat.reduceLeDiff, Nat.reduceSub, and_self, and_true, true_and, reduceIte, reduceCtorEq, eq_self, implies_true, forall_const, false_implies, imp_self, decide_true, decide_false, t0]
  · simp (maxSteps := 4000000) (disch := omega) only [Zq, evO, vbox, wr, Zeq, if_true, if_false, Nat.reduceEqDiff, Nat.reduceAdd, Nat.reduceLeDiff, Nat.reduceSub, and_self, and_true, true_and, reduceIte, reduceCtorEq, eq_self, implies_true, forall_const, false_implies, imp_self, decide_true, decide_false, t5]
  · simp (maxSteps := 4000000) (disch := omega) only [Zq, evO, vbox, wr, Zeq, if_true, if_false, Nat.reduceEqDiff, Nat.reduceAdd, Nat.reduceLeDiff, Nat.reduceSub, and_self, and_true, true_and, reduceIte, reduceCtorEq, eq_self, implies_true, forall_const, false_implies, imp_self, decide_true, decide_false, t1]
    try rfl
theorem markTelegramS_is : IsMark Tryd.prog (rSlc rTelegram) (rSlc rTelegram).mar 21 := markSlc_is (A := 33) (body := markTelegramSB) c21 marB_Telegram markTelegramSB_is
def heldTelegramSB : X := (.seq (.seq (.reg [(.mk (.some 12) (.mov (.tmp 0)) none), (.mk (.some 13) (.mov (.tmp 5)) none), (.mk (.some 14) (.idx 3 (.tmp 12) (.tmp 13)) none), (.mk (.some 15) (.fad 0 (.tmp 14)) none), (.mk (.some 16) (.load1 (.tmp 15)) none), (.mk (.some 17) (.mov (.tmp 1)) none), (.mk (.some 18) (.bin (.neq) (.tmp 16) (.tmp 17)) none)]) (.cond (.tmp 18) (.seq (.reg [(.mk (.some 4) (.mov (.const (.int (.i64) (-1)))) none)]) (.ret)) (.skip))) (.seq (.reg [(.mk (.some 19) (.mov (.tmp 1)) none), (.mk (.some 20) (.bin (.add) (.tmp 19) (.const (.int (.i64) 1))) none), (.mk (.some 1) (.mov (.tmp 20)) none)]) (.seq (.seq (.reg [(.mk (.some 21) (.mov (.tmp 0)) none), (.mk (.some 22) (.mov (.tmp 5)) none), (.mk (.some 23) (.idx 3 (.tmp 21) (.tmp 22)) none), (.mk (.some 24) (.fad 1 (.tmp 23)) none), (.mk (.some 25) (.load1 (.tmp 24)) none), (.mk (.some 26) (.mov (.tmp 1)) none), (.mk (.some 27) (.bin (.neq) (.tmp 25) (.tmp 26)) none)]) (.cond (.tmp 27) (.seq (.reg [(.mk (.some 4) (.mov (.const (.int (.i64) (-1)))) none)]) (.ret)) (.skip))) (.seq (.reg [(.mk (.some 28) (.mov (.tmp 1)) none), (.mk (.some 29) (.bin (.add) (.tmp 28) (.const (.int (.i64) 1))) none), (.mk (.some 1) (.mov (.tmp 29)) none)]) (.seq (.reg [(.mk (.some 30) (.mov (.tmp 0)) none), (.mk (.some 31) (.mov (.tmp 5)) none), (.mk (.some 32) (.idx 3 (.tmp 30) (.tmp 31)) none), (.mk (.some 33) (.fad 2 (.tmp 32)) none), (.mk (.some 34) (.load1 (.tmp 33)) none), (.mk (.some 35) (.mov (.tmp 1)) none), (.mk (.some 36) (.call 35 [(.tmp 34), (.tmp 35)]) none), (.mk (.some 1) (.mov (.tmp 36)) none)]) (.seq (.reg [(.mk (.some 37) (.mov (.tmp 1)) none), (.mk (.some 38) (.bin (.lss) (.tmp 37) (.const (.int (.i64) 0))) none)]) (.cond (.tmp 38) (.seq (.reg [(.mk (.some 4) (.mov (.const (.int (.i64) (-1)))) none)]) (.ret)) (.skip))))))))
theorem heldTelegramSB_is : BHeld Tryd.prog rTelegram heldTelegramSB := by
  rintro v i n k cs ⟨x0, x1, x2⟩ ks Q T H t0 t1 t5 hi hs hrd hk K
  have hs3 : Sl H v 3 n cs := hs
  obtain ⟨w2, hrow, h2⟩ := telegram_rd hrd
  have hrow : (cs.drop (i * 3)).take 3 = [.int .i64 ((k : Nat) : Int), .int .i64 (((k + 1) : Nat) : Int), w2] := hrow
  rw [telegram_tot] at hk
  have q0 : cs[i * 3 + 0]? = some (.int .i64 ((k : Nat) : Int)) := row_get hrow (by omega) rfl
  have l0_0 := Sl.ld hs3 hi q0
  have q1 : cs[i * 3 + 1]? = some (.int .i64 (((k + 1) : Nat) : Int)) := row_get hrow (by omega) rfl
  have l1_0 := Sl.ld hs3 hi q1
  have q2 : cs[i * 3 + 2]? = some (w2) := row_get hrow (by omega) rfl
  have l2_0 := Sl.ld hs3 hi q2
  have K0 : Keep H H := Keep.refl H
  simp (maxSteps := 4000000) (disch := omega) only [Zq, evO, vbox, wr, Zeq, if_true, if_false, Nat.reduceEqDiff, Nat.reduceAdd, Nat.reduceLeDiff, Nat.reduceSub, and_self, and_true, true_and, reduceIte, reduceCtorEq, eq_self, implies_true, forall_const, false_implies, imp_self, decide_true, decide_false, heldTelegramSB, t0, t1, t5, Sl.len_ hs3, Sl.idx hs3 hi, Sl.fad hs3 hi, l0_0, l1_0, l2_0]
  have b2 := mar_le MarB.byte x2 (((k + 1) + 1))
  refine GO_call ((heldByteS_is H [w2] x2 (((k + 1) + 1)) ((rSlc rByte).rdk h2 K0) (by omega)).mono ?_)
  rintro _ H1 ⟨k1, rfl⟩
  have K1 := K0.trans k1
  have hs3_1 := hs3.keep K1
  have l0_1 := Sl.ld hs3_1 hi q0
  have l1_1 := Sl.ld hs3_1 hi q1
  have l2_1 := Sl.ld hs3_1 hi q2
  simp (maxSteps := 4000000) (disch := omega) only [Zq, evO, vbox, wr, Zeq, if_true, if_false, Nat.reduceEqDiff, Nat.reduceAdd, Nat.reduceLeDiff, Nat.reduceSub, and_self, and_true, true_and, reduceIte, reduceCtorEq, eq_self, implies_true, forall_const, false_implies, imp_self, decide_true, decide_false, t0, t1, t5, Sl.len_ hs3, Sl.idx hs3 hi, Sl.fad hs3 hi, l0_1, l1_1, l2_1]
  refine K _ _ ?_ ?_ ?_ K1
  · simp (maxSteps := 4000000) (disch := omega) only [Zq, evO, vbox, wr, Zeq, if_true, if_false, Nat.reduceEqDiff, Nat.reduceAdd, Nat.reduceLeDiff, Nat.reduceSub, and_self, and_true, true_and, reduceIte, reduceCtorEq, eq_self, implies_true, forall_const, false_implies, imp_self, decide_true, decide_false, t0]
  · simp (maxSteps := 4000000) (disch := omega) only [Zq, evO, vbox, wr, Zeq, if_true, if_false, Nat.reduceEqDiff, Nat.reduceAdd, Nat.reduceLeDiff, Nat.reduceSub, and_self, and_true, true_and, reduceIte, reduceCtorEq, eq_self, implies_true, forall_const, false_implies, imp_self, decide_true, decide_false, t5]
  · simp (maxSteps := 4000000) (disch := omega) only [Zq, evO, vbox, wr, Zeq, if_true, if_false, Nat.reduceEqDiff, Nat.reduceAdd, Nat.reduceLeDiff, Nat.reduceSub, and_self, and_true, true_and, reduceIte, reduceCtorEq, eq_self, implies_true, forall_const, false_implies, imp_self, decide_true, decide_false, t1]
    try rfl
theorem heldTelegramS_is : IsHeld Tryd.prog (rSlc rTelegram) (rSlc rTelegram).mar 22 := heldSlc_is (A := 39) (body := heldTelegramSB) c22 marB_Telegram heldTelegramSB_is
end Go.Proofs.YtiajbefljkikiaaDoor.AX
