/- Telegrams: what the laws' helpers do. No condition beyond each law's own; of the program: the functions' forms. -/
import Derived.Test.YtiajbefljkikiaaDoorXF
import Derived.Test.YtiajbefljkikiaaDoorAXzd
namespace Go.Proofs.YtiajbefljkikiaaDoor.AX
open Go
set_option maxRecDepth 10000
set_option maxHeartbeats 4000000
set_option linter.unusedSimpArgs false
set_option linter.unusedVariables false
-- Telegram
def rTelegram : Rep (Int × Int × (List Int)) := rPair rInt (rPair rInt (rSlc rByte))
theorem telegram_rd {H : Heap} {cs : List Value} {x0 : Int} {x1 : Int} {x2 : List Int} (h : rTelegram.rd H cs (x0, x1, x2)) : ∃ v2, cs = [.int .i64 x0, .int .i64 x1, v2] ∧ (rSlc rByte).rd H [v2] x2 := by
  obtain ⟨c0, d0, rfl, h0, c1, d1, rfl, h1, h2⟩ := h
  have e0 : c0 = [.int .i64 x0] := h0
  subst e0
  have e1 : c1 = [.int .i64 x1] := h1
  subst e1
  obtain ⟨v2, rfl⟩ := slc_one h2
  exact ⟨v2, rfl, h2⟩
theorem telegram_rd' {H : Heap} {v2 : Value} {x0 : Int} {x1 : Int} {x2 : List Int} (h2 : (rSlc rByte).rd H [v2] x2) : rTelegram.rd H [.int .i64 x0, .int .i64 x1, v2] (x0, x1, x2) := ⟨[.int .i64 x0], _, rfl, rfl, ⟨[.int .i64 x1], _, rfl, rfl, h2⟩⟩
theorem telegram_own {H : Heap} {cs : List Value} {x0 : Int} {x1 : Int} {x2 : List Int} {F : List Nat} (h : rTelegram.own H cs (x0, x1, x2) F) : ∃ v2 F2, cs = [.int .i64 x0, .int .i64 x1, v2] ∧ (rSlc rByte).own H [v2] x2 F2 ∧ F = F2 := by
  obtain ⟨c0, d0, E0, G0, rfl, h0, ⟨c1, d1, E1, G1, rfl, h1, h2, rfl⟩, rfl⟩ := h
  obtain ⟨e0, f0⟩ : c0 = [.int .i64 x0] ∧ E0 = [] := h0
  subst e0 f0
  obtain ⟨e1, f1⟩ : c1 = [.int .i64 x1] ∧ E1 = [] := h1
  subst e1 f1
  obtain ⟨v2, rfl⟩ := slc_one ((rSlc rByte).ownrd h2)
  exact ⟨v2, G1, rfl, h2, by simp⟩
theorem telegram_own' {H : Heap} {v2 : Value} {x0 : Int} {x1 : Int} {x2 : List Int} {F2 : List Nat} (h2 : (rSlc rByte).own H [v2] x2 F2) : rTelegram.own H [.int .i64 x0, .int .i64 x1, v2] (x0, x1, x2) (F2) := by
  have e : F2 = ([] : List Nat) ++ (([] : List Nat) ++ F2) := by simp
  rw [e]
  exact ⟨[.int .i64 x0], _, [], _, rfl, ⟨rfl, rfl⟩, ⟨[.int .i64 x1], _, [], _, rfl, ⟨rfl, rfl⟩, h2, rfl⟩, rfl⟩
theorem telegram_val {v2 : Value} {x0 : Int} {x1 : Int} : rTelegram.val [.int .i64 x0, .int .i64 x1, v2] = .agg #[.int .i64 x0, .int .i64 x1, v2] := nofl rfl
theorem telegram_tot {x0 : Int} {x1 : Int} {x2 : List Int} : rTelegram.tot (x0, x1, x2) = (rSlc rByte).tot x2 := by
  show 0 + (0 + (rSlc rByte).tot x2) = _
  omega
theorem marB_Telegram : MarB rTelegram := MarB.of (MarC.pair (MarC.leaf (f := .int .i64) (m := fun k => (k : Int)) (hf := oneCell_int)) (MarC.pair (MarC.leaf (f := .int .i64) (m := fun k => (k : Int)) (hf := oneCell_int)) (MarC.slc MarB.byte))) (by omega)
theorem elemTelegram : Elem rTelegram true 3 := ⟨rfl, by omega, fun _ _ => rfl, fun h => by cases h⟩
theorem toByteS_is : IsTo Tryd.prog (rSlc rByte) 17 := toPlain_is c17 (by omega)
theorem eqByteS_is : IsEq Tryd.prog (rSlc rByte) 19 := eqPlain_is c19 (fun z => by rw [Zdv]; simp)
theorem eqTelegram_is : IsEq Tryd.prog rTelegram 34 := by
  rintro H cs ds ⟨x0, x1, x2⟩ hrd hrd2 htot
  obtain ⟨v2, rfl, h2⟩ := telegram_rd hrd
  obtain ⟨u2, rfl, l2⟩ := telegram_rd hrd2
  rw [telegram_tot] at htot
  refine Run.intro c34 rfl ?_
  simp only [telegram_val]
  simp (maxSteps := 4000000) (disch := omega) only [Zq, evO, vbox, wr, Zeq, if_true, if_false, Nat.reduceEqDiff, Nat.reduceAdd, Nat.reduceLeDiff, Nat.reduceSub, and_self, and_true, true_and, reduceIte, reduceCtorEq, eq_self, implies_true, forall_const, false_implies, imp_self, decide_true, decide_false, x34, vbinB_ne]
  refine GO_call ((eqByteS_is _ [v2] [u2] x2 ((rSlc rByte).rdk h2 (by repeat' (first | exact Keep.refl _ | assumption | refine Keep.push' ?_ | refine Keep.set' ?_ ?_ | refine Keep.moved' ?_ ?_ | omega))) ((rSlc rByte).rdk l2 (by repeat' (first | exact Keep.refl _ | assumption | refine Keep.push' ?_ | refine Keep.set' ?_ ?_ | refine Keep.moved' ?_ ?_ | omega))) (by omega)).mono ?_)
  rintro _ H1 ⟨k1, rfl⟩
  have K1 : Keep H H1 := Keep.trans (by repeat' (first | exact Keep.refl _ | assumption | refine Keep.push' ?_ | refine Keep.set' ?_ ?_ | refine Keep.moved' ?_ ?_ | omega)) k1
  simp (maxSteps := 4000000) (disch := omega) only [Zq, evO, vbox, wr, Zeq, if_true, if_false, Nat.reduceEqDiff, Nat.reduceAdd, Nat.reduceLeDiff, Nat.reduceSub, and_self, and_true, true_and, reduceIte, reduceCtorEq, eq_self, implies_true, forall_const, false_implies, imp_self, decide_true, decide_false, vbinB_ne]
  try exact K1
theorem eqTelegramS_is : IsEq Tryd.prog (rSlc rTelegram) 18 := eqCall_is (agg := true) (sz := 3) c18 elemTelegram eqTelegram_is
theorem markByteS_is : IsMark Tryd.prog (rSlc rByte) (rSlc rByte).mar 20 := markMarkByte_is c20
def mTelegram (x : Int × Int × (List Int)) (k : Nat) : (Int × Int × (List Int)) × Nat := ((x.1, x.2.1, ((rSlc rByte).mar x.2.2 k).1), ((rSlc rByte).mar x.2.2 k).2)
theorem heldByteS_is : IsHeld Tryd.prog (rSlc rByte) (rSlc rByte).mar 35 := heldHeldByte_is c35
end Go.Proofs.YtiajbefljkikiaaDoor.AX
