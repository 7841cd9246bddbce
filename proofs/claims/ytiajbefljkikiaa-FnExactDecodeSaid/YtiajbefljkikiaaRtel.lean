/- Telegrams: what the laws' helpers do. No condition beyond each law's own; of the program: the functions' forms. -/
import Derived.Test.YtiajbefljkikiaaXF
import Derived.Test.YtiajbefljkikiaaAXzd
namespace Go.Proofs.Ytiajbefljkikiaa.AX
open Go
set_option maxRecDepth 10000
set_option maxHeartbeats 4000000
set_option linter.unusedSimpArgs false
set_option linter.unusedVariables false
-- Telegram
def rTelegram : Rep (Int × Int × (List Int)) := rPair rInt (rPair rInt (rSlc rByte))
theorem telegram_rd {H : Heap} {cs : List Value} {x0 : Int} {x1 : Int} {x2 : List Int} (h : rTelegram.rd H cs (x0, x1, x2)) : ∃ v2, cs = [.int .i64 x0, .int .i64 x1, v2] ∧ (rSlc rByte).rd H [v2] x2 := by
  obtain ⟨c0, d0, rfl, h0, c1, d1, rfl, h1, h2⟩ := h
  have e0 : c0 = [.int .i64 x0] := h0
  subst e0
  have e1 : c1 = [.int .i64 x1] := h1
  subst e1
  obtain ⟨v2, rfl⟩ := slc_one h2
  exact ⟨v2, rfl, h2⟩
theorem telegram_rd' {H : Heap} {v2 : Value} {x0 : Int} {x1 : Int} {x2 : List Int} (h2 : (rSlc rByte).rd H [v2] x2) : rTelegram.rd H [.int .i64 x0, .int .i64 x1, v2] (x0, x1, x2) := ⟨[.int .i64 x0], _, rfl, rfl, ⟨[.int .i64 x1], _, rfl, rfl, h2⟩⟩
theorem telegram_own {H : Heap} {cs : List Value} {x0 : Int} {x1 : Int} {x2 : List Int} {F : List Nat} (h : rTelegram.own H cs (x0, x1, x2) F) : ∃ v2 F2, cs = [.int .i64 x0, .int .i64 x1, v2] ∧ (rSlc rByte).own H [v2] x2 F2 ∧ F = F2 := by
  obtain ⟨c0, d0, E0, G0, rfl, h0, ⟨c1, d1, E1, G1, rfl, h1, h2, rfl⟩, rfl⟩ := h
  obtain ⟨e0, f0⟩ : c0 = [.int .i64 x0] ∧ E0 = [] := h0
  subst e0 f0
  obtain ⟨e1, f1⟩ : c1 = [.int .i64 x1] ∧ E1 = [] := h1
  subst e1 f1
  obtain ⟨v2, rfl⟩ := slc_one ((rSlc rByte).ownrd h2)
  exact ⟨v2, G1, rfl, h2, by simp⟩
theorem telegram_own' {H : Heap} {v2 : Value} {x0 : Int} {x1 : Int} {x2 : List Int} {F2 : List Nat} (h2 : (rSlc rByte).own H [v2] x2 F2) : rTelegram.own H [.int .i64 x0, .int .i64 x1, v2] (x0, x1, x2) (F2) := by
  have e : F2 = ([] : List Nat) ++ (([] : List Nat) ++ F2) := by simp
  rw [e]
  exact ⟨[.int .i64 x0], _, [], _, rfl, ⟨rfl, rfl⟩, ⟨[.int .i64 x1], _, [], _, rfl, ⟨rfl, rfl⟩, h2, rfl⟩, rfl⟩
theorem telegram_val {v2 : Value} {x0 : Int} {x1 : Int} : rTelegram.val [.int .i64 x0, .int .i64 x1, v2] = .agg #[.int .i64 x0, .int .i64 x1, v2] := nofl rfl
theorem telegram_tot {x0 : Int} {x1 : Int} {x2 : List Int} : rTelegram.tot (x0, x1, x2) = (rSlc rByte).tot x2 := by
  show 0 + (0 + (rSlc rByte).tot x2) = _
  omega
theorem marB_Telegram : MarB rTelegram := MarB.of (MarC.pair (MarC.leaf (f := .int .i64) (m := fun k => (k : Int)) (hf := oneCell_int)) (MarC.pair (MarC.leaf (f := .int .i64) (m := fun k => (k : Int)) (hf := oneCell_int)) (MarC.slc MarB.byte))) (by omega)
theorem szByteS_is : IsSz Try.prog (rSlc rByte) 98 := szPlain_is c98
theorem szTelegram_is : IsSz Try.prog rTelegram 56 := by
  rintro H cs ⟨x0, x1, x2⟩ q hrd hfit hq
  obtain ⟨f0, f1, f2⟩ := hfit
  obtain ⟨v2, rfl, h2⟩ := telegram_rd hrd
  rw [telegram_tot]
  refine Run.intro c56 rfl ?_
  simp only [telegram_val]
  simp (maxSteps := 4000000) (disch := omega) only [Zq, evO, vbox, wr, Zeq, if_true, if_false, Nat.reduceEqDiff, Nat.reduceAdd, Nat.reduceLeDiff, Nat.reduceSub, and_self, and_true, true_and, reduceIte, reduceCtorEq, eq_self, implies_true, forall_const, false_implies, imp_self, decide_true, decide_false, x56]
  refine GO_call ((szByteS_is _ [v2] x2 q ((rSlc rByte).rdk h2 (Keep.push _ _)) f2 (by omega)).mono ?_)
  rintro w H1 ⟨k1, hw⟩
  have n1 := k1.nxt
  have g1 := k1.get H.nxt (by simp only [Zbg]; omega)
  simp (maxSteps := 4000000) (disch := omega) only [Zq, evO, vbox, wr, Zeq, if_true, if_false, Nat.reduceEqDiff, Nat.reduceAdd, Nat.reduceLeDiff, Nat.reduceSub, and_self, and_true, true_and, reduceIte, reduceCtorEq, eq_self, implies_true, forall_const, false_implies, imp_self, decide_true, decide_false] at n1 g1
  have K1 : Keep H H1 := Keep.trans (Keep.push _ _) k1
  rcases hw with rfl | ⟨q1, rfl, hq1⟩
  · simp (maxSteps := 4000000) (disch := omega) only [Zq, evO, vbox, wr, Zeq, if_true, if_false, Nat.reduceEqDiff, Nat.reduceAdd, Nat.reduceLeDiff, Nat.reduceSub, and_self, and_true, true_and, reduceIte, reduceCtorEq, eq_self, implies_true, forall_const, false_implies, imp_self, decide_true, decide_false, g1]
    exact ⟨K1, by simp⟩
  simp (maxSteps := 4000000) (disch := omega) only [Zq, evO, vbox, wr, Zeq, if_true, if_false, Nat.reduceEqDiff, Nat.reduceAdd, Nat.reduceLeDiff, Nat.reduceSub, and_self, and_true, true_and, reduceIte, reduceCtorEq, eq_self, implies_true, forall_const, false_implies, imp_self, decide_true, decide_false, g1]
  exact ⟨K1, .inr ⟨q1, rfl, by omega⟩⟩
theorem elemTelegram : Elem rTelegram true 3 := ⟨rfl, by omega, fun _ _ => rfl, fun h => by cases h⟩
theorem szTelegramS_is : IsSz Try.prog (rSlc rTelegram) 10 := szCall_is (agg := true) (sz := 3) c10 elemTelegram szTelegram_is
theorem toByteS_is : IsTo Try.prog (rSlc rByte) 19 := toPlain_is c19 (by omega)
theorem toTelegram_is : IsTo Try.prog rTelegram 59 := by
  rintro H cs ⟨x0, x1, x2⟩ hrd htot
  obtain ⟨v2, rfl, h2⟩ := telegram_rd hrd
  rw [telegram_tot] at htot
  refine Run.intro c59 rfl ?_
  simp only [telegram_val]
  simp (maxSteps := 4000000) (disch := omega) only [Zq, evO, vbox, wr, Zeq, if_true, if_false, Nat.reduceEqDiff, Nat.reduceAdd, Nat.reduceLeDiff, Nat.reduceSub, and_self, and_true, true_and, reduceIte, reduceCtorEq, eq_self, implies_true, forall_const, false_implies, imp_self, decide_true, decide_false, x59]
  have K0 : Keep H H := Keep.refl H
  refine GO_call ((toByteS_is _ [v2] x2 ((rSlc rByte).rdk h2 (by repeat' (first | exact Keep.refl _ | assumption | refine Keep.push' ?_ | refine Keep.set' ?_ ?_ | refine Keep.moved' ?_ ?_ | omega))) (by omega)).mono ?_)
  rintro _ H1 ⟨k1, _, F2, rfl, o2, f2⟩
  obtain ⟨y2, rfl⟩ := slc_one ((rSlc rByte).ownrd o2)
  obtain ⟨y2a, y2b⟩ := slc_cell ((rSlc rByte).ownrd o2)
  have n1 := k1.nxt
  have gA1 := k1.get H.nxt (by simp only [Zbg, Zbh]; omega)
  have gB1 := k1.get (H.nxt + 1) (by simp only [Zbg, Zbh]; omega)
  have gC1 := k1.get (H.nxt + 2) (by simp only [Zbg, Zbh]; omega)
  have K1 : Keep H H1 := Keep.trans (by repeat' (first | exact Keep.refl _ | assumption | refine Keep.push' ?_ | refine Keep.set' ?_ ?_ | refine Keep.moved' ?_ ?_ | omega)) k1
  simp (maxSteps := 4000000) (disch := omega) only [Zq, evO, vbox, wr, Zeq, if_true, if_false, Nat.reduceEqDiff, Nat.reduceAdd, Nat.reduceLeDiff, Nat.reduceSub, and_self, and_true, true_and, reduceIte, reduceCtorEq, eq_self, implies_true, forall_const, false_implies, imp_self, decide_true, decide_false] at n1 gA1 gB1 gC1
  have f22 := f2.2
  simp only [Zbg, Zbh] at f22
  simp only [slc_val]
  simp (maxSteps := 4000000) (disch := omega) only [Zq, evO, vbox, wr, Zeq, if_true, if_false, Nat.reduceEqDiff, Nat.reduceAdd, Nat.reduceLeDiff, Nat.reduceSub, and_self, and_true, true_and, reduceIte, reduceCtorEq, eq_self, implies_true, forall_const, false_implies, imp_self, decide_true, decide_false, gA1, gB1, gC1, y2a, y2b]
  refine ⟨by repeat' (first | exact Keep.refl _ | assumption | refine Keep.push' ?_ | refine Keep.set' ?_ ?_ | refine Keep.moved' ?_ ?_ | omega), [.int .i64 x0, .int .i64 x1, y2], F2, rfl, telegram_own' ((rSlc rByte).ownChg (G := [H.nxt + 1, H.nxt + 2]) o2 (by repeat' (first | exact Chg.refl _ _ | refine Chg.trans ?_ (Chg.set (by simp)))) (fun a ha => by have := f22 a ha; simp only [List.mem_cons, List.not_mem_nil, or_false, not_or]; omega)), ?_, fun i hi => ?_⟩
  · skip
    exact f2.1
  · simp only [Zbh]
    have := f22 i hi
    omega
theorem toTelegramS_is : IsTo Try.prog (rSlc rTelegram) 12 := toCall_is (agg := true) (sz := 3) (bytes := 40) (zs := [.int .i64 0, .int .i64 0, .slice none 0 0]) c12 (by omega) rfl elemTelegram toTelegram_is
theorem eqByteS_is : IsEq Try.prog (rSlc rByte) 22 := eqPlain_is c22 (fun z => by rw [Zdv]; simp)
theorem eqTelegram_is : IsEq Try.prog rTelegram 21 := by
  rintro H cs ds ⟨x0, x1, x2⟩ hrd hrd2 htot
  obtain ⟨v2, rfl, h2⟩ := telegram_rd hrd
  obtain ⟨u2, rfl, l2⟩ := telegram_rd hrd2
  rw [telegram_tot] at htot
  refine Run.intro c21 rfl ?_
  simp only [telegram_val]
  simp (maxSteps := 4000000) (disch := omega) only [Zq, evO, vbox, wr, Zeq, if_true, if_false, Nat.reduceEqDiff, Nat.reduceAdd, Nat.reduceLeDiff, Nat.reduceSub, and_self, and_true, true_and, reduceIte, reduceCtorEq, eq_self, implies_true, forall_const, false_implies, imp_self, decide_true, decide_false, x21, vbinB_ne]
  refine GO_call ((eqByteS_is _ [v2] [u2] x2 ((rSlc rByte).rdk h2 (by repeat' (first | exact Keep.refl _ | assumption | refine Keep.push' ?_ | refine Keep.set' ?_ ?_ | refine Keep.moved' ?_ ?_ | omega))) ((rSlc rByte).rdk l2 (by repeat' (first | exact Keep.refl _ | assumption | refine Keep.push' ?_ | refine Keep.set' ?_ ?_ | refine Keep.moved' ?_ ?_ | omega))) (by omega)).mono ?_)
  rintro _ H1 ⟨k1, rfl⟩
  have K1 : Keep H H1 := Keep.trans (by repeat' (first | exact Keep.refl _ | assumption | refine Keep.push' ?_ | refine Keep.set' ?_ ?_ | refine Keep.moved' ?_ ?_ | omega)) k1
  simp (maxSteps := 4000000) (disch := omega) only [Zq, evO, vbox, wr, Zeq, if_true, if_false, Nat.reduceEqDiff, Nat.reduceAdd, Nat.reduceLeDiff, Nat.reduceSub, and_self, and_true, true_and, reduceIte, reduceCtorEq, eq_self, implies_true, forall_const, false_implies, imp_self, decide_true, decide_false, vbinB_ne]
  try exact K1
theorem eqTelegramS_is : IsEq Try.prog (rSlc rTelegram) 14 := eqCall_is (agg := true) (sz := 3) c14 elemTelegram eqTelegram_is
theorem markByteS_is : IsMark Try.prog (rSlc rByte) (rSlc rByte).mar 23 := markMarkByte_is c23
def mTelegram (x : Int × Int × (List Int)) (k : Nat) : (Int × Int × (List Int)) × Nat := ((x.1, x.2.1, ((rSlc rByte).mar x.2.2 k).1), ((rSlc rByte).mar x.2.2 k).2)
theorem markTelegram_is : IsMark Try.prog rTelegram mTelegram 24 := by
  rintro H cs ⟨x0, x1, x2⟩ F k hown hnd hk
  obtain ⟨v2, F2, rfl, o2, hF⟩ := telegram_own hown
  subst F
  have nd2 := hnd
  have lt2 := (rSlc rByte).ownlt o2
  rw [telegram_tot] at hk
  refine Run.intro c24 rfl ?_
  simp only [telegram_val]
  simp (maxSteps := 4000000) (disch := omega) only [Zq, evO, vbox, wr, Zeq, if_true, if_false, Nat.reduceEqDiff, Nat.reduceAdd, Nat.reduceLeDiff, Nat.reduceSub, and_self, and_true, true_and, reduceIte, reduceCtorEq, eq_self, implies_true, forall_const, false_implies, imp_self, decide_true, decide_false, x24]
  generalize hG : H.push [.int .i64 x0, .int .i64 x1, v2] = H0
  have K0 : Keep H H0 := by rw [← hG]; exact Keep.push _ _
  have g0 : H0.get H.nxt = some (.own [.int .i64 x0, .int .i64 x1, v2]) := by rw [← hG, push_get', if_pos rfl]
  have n0 : H.nxt < H0.nxt := by rw [← hG, Zbg]; omega
  have o2 := (rSlc rByte).ownKeep o2 K0
  have C0 : Chg (F2) H H0 := K0.chg
  have b2 := mar_le MarB.byte x2 (k)
  refine GO_call ((markByteS_is H0 [v2] x2 F2 (k) o2 nd2 (by omega)).mono ?_)
  rintro _ H1 ⟨c1, o2, rfl⟩
  have n1 := c1.nxt
  have C1 := C0.trans (c1.mono (fun a ha => by exact ha))
  have g1 := (c1.get H.nxt (by omega) (fun hm => by have := lt2 _ hm; omega)).trans g0
  simp (maxSteps := 4000000) (disch := omega) only [Zq, evO, vbox, wr, Zeq, if_true, if_false, Nat.reduceEqDiff, Nat.reduceAdd, Nat.reduceLeDiff, Nat.reduceSub, and_self, and_true, true_and, reduceIte, reduceCtorEq, eq_self, implies_true, forall_const, false_implies, imp_self, decide_true, decide_false, g1]
  exact ⟨C1, telegram_own' o2, rfl⟩
theorem heldByteS_is : IsHeld Try.prog (rSlc rByte) (rSlc rByte).mar 70 := heldHeldByte_is c70
theorem heldTelegram_is : IsHeld Try.prog rTelegram mTelegram 25 := by
  rintro H cs ⟨x0, x1, x2⟩ k hrd hk
  obtain ⟨v2, rfl, h2⟩ := telegram_rd hrd
  rw [telegram_tot] at hk
  refine Run.intro c25 rfl ?_
  simp only [telegram_val]
  simp (maxSteps := 4000000) (disch := omega) only [Zq, evO, vbox, wr, Zeq, if_true, if_false, Nat.reduceEqDiff, Nat.reduceAdd, Nat.reduceLeDiff, Nat.reduceSub, and_self, and_true, true_and, reduceIte, reduceCtorEq, eq_self, implies_true, forall_const, false_implies, imp_self, decide_true, decide_false, x25]
  generalize hG : H.push [.int .i64 x0, .int .i64 x1, v2] = H0
  have K0 : Keep H H0 := by rw [← hG]; exact Keep.push _ _
  have g0 : H0.get H.nxt = some (.own [.int .i64 x0, .int .i64 x1, v2]) := by rw [← hG, push_get', if_pos rfl]
  have n0 : H.nxt < H0.nxt := by rw [← hG, Zbg]; omega
  have b2 := mar_le MarB.byte x2 (k)
  refine GO_call ((heldByteS_is H0 [v2] x2 (k) ((rSlc rByte).rdk h2 K0) (by omega)).mono ?_)
  rintro _ H1 ⟨k1, rfl⟩
  have n1 := k1.nxt
  have K1 := K0.trans k1
  have g1 := (k1.get H.nxt (by omega)).trans g0
  simp (maxSteps := 4000000) (disch := omega) only [Zq, evO, vbox, wr, Zeq, if_true, if_false, Nat.reduceEqDiff, Nat.reduceAdd, Nat.reduceLeDiff, Nat.reduceSub, and_self, and_true, true_and, reduceIte, reduceCtorEq, eq_self, implies_true, forall_const, false_implies, imp_self, decide_true, decide_false, g1]
  exact ⟨K1, rfl⟩
end Go.Proofs.Ytiajbefljkikiaa.AX
