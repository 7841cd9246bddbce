/- What holding marks of a slice of bools does. No condition beyond each law's own; nothing of the program. -/
import Derived.Test.YtkadelndmaegdaaAXzf
namespace Go.Proofs.Ytkadelndmaegdaa.AX
open Go
set_option maxRecDepth 10000
set_option linter.unusedSimpArgs false
set_option linter.unusedVariables false
def xHeldBool : XFun := (.mk 2 (.seq (.reg [(.mk (.some 4) (.mov (.const (.int (.i64) 0))) none)]) (.seq (.seq (.reg [(.mk (.some 5) (.mov (.const (.int (.i64) 0))) none)]) (.block 0 (.loop (.seq (.seq (.reg [(.mk (.some 6) (.mov (.tmp 5)) none), (.mk (.some 7) (.mov (.tmp 0)) none), (.mk (.some 8) (.len (.tmp 7)) none), (.mk (.some 9) (.bin (.lss) (.tmp 6) (.tmp 8)) none)]) (.cond (.tmp 9) (.skip) (.exit 0))) (.seq (.block 1 (.seq (.seq (.reg [(.mk (.some 12) (.mov (.tmp 0)) none), (.mk (.some 13) (.mov (.tmp 5)) none), (.mk (.some 14) (.idx 1 (.tmp 12) (.tmp 13)) none), (.mk (.some 15) (.load1 (.tmp 14)) none), (.mk (.some 16) (.mov (.tmp 1)) none), (.mk (.some 17) (.bin (.rem) (.tmp 16) (.const (.int (.i64) 3))) none), (.mk (.some 18) (.bin (.eql) (.tmp 17) (.const (.int (.i64) 0))) none), (.mk (.some 19) (.binB true (.tmp 15) (.tmp 18)) none)]) (.cond (.tmp 19) (.seq (.reg [(.mk (.some 4) (.mov (.const (.int (.i64) (-1)))) none)]) (.ret)) (.skip))) (.reg [(.mk (.some 20) (.mov (.tmp 1)) none), (.mk (.some 21) (.bin (.add) (.tmp 20) (.const (.int (.i64) 1))) none), (.mk (.some 1) (.mov (.tmp 21)) none)]))) (.reg [(.mk (.some 10) (.mov (.tmp 5)) none), (.mk (.some 11) (.bin (.add) (.tmp 10) (.const (.int (.i64) 1))) none), (.mk (.some 5) (.mov (.tmp 11)) none)])))))) (.seq (.reg [(.mk (.some 22) (.mov (.tmp 1)) none), (.mk (.some 4) (.mov (.tmp 22)) none)]) (.ret)))) [(.tmp 4)])
theorem heldHeldBool_is {P : Program} {g : FuncId} (hx : cfun P g = some xHeldBool) : IsHeld P (rSlc rBool) (rSlc rBool).mar g := by
  intro H cs xs k hrd hk
  have hn : k + 99 * xs.length ≤ 4611686018427387904 := Nat.le_trans (by have : 99 * xs.length ≤ 99 * (rSlc rBool).tot xs := Nat.mul_le_mul_left _ (Nat.le_add_right _ _); omega) hk
  have hmar : (rSlc rBool).mar xs k = ((List.range xs.length).map (fun i => decide ((k + i) % 3 = 0)), k + xs.length) := leaf_mar k xs
  rw [hmar] at hrd ⊢
  obtain ⟨v, rfl, h⟩ := leaf_rd hrd
  have hlen : ((List.range xs.length).map (fun i => decide ((k + i) % 3 = 0))).length = xs.length := by simp
  rw [hlen] at h
  refine Run.intro hx rfl ?_
  have hval : (rSlc rBool).val [v] = v := rfl
  simp only [hval]
  simp (maxSteps := 4000000) (disch := omega) only [Zq, evO, vbox, wr, Zeq, if_true, if_false, Nat.reduceEqDiff, Nat.reduceAdd, Nat.reduceLeDiff, Nat.reduceSub, and_self, and_true, true_and, reduceIte, reduceCtorEq, eq_self, implies_true, forall_const, false_implies, imp_self, decide_true, decide_false, xHeldBool, h.len_]
  refine G_for xs.length (fun i T H1 => T 0 = v ∧ T 1 = .int .i64 ((k + i : Nat) : Int) ∧ T 5 = .int .i64 (i : Int) ∧ Keep H H1) 0 (Nat.zero_le _) ?_ ?_
  · simp (maxSteps := 4000000) (disch := omega) only [Zq, evO, vbox, wr, Zeq, if_true, if_false, Nat.reduceEqDiff, Nat.reduceAdd, Nat.reduceLeDiff, Nat.reduceSub, and_self, and_true, true_and, reduceIte, reduceCtorEq, eq_self, implies_true, forall_const, false_implies, imp_self, decide_true, decide_false]
    repeat' (first | exact Keep.refl _ | assumption | refine Keep.push' ?_ | refine Keep.set' ?_ ?_ | refine Keep.moved' ?_ ?_ | omega)
  · rintro i T H1 hi ⟨t0, t1, t5, k1⟩
    have h1 := h.keep k1
    by_cases hin : i < xs.length
    · have hld : vld1 H1 (adr v i 1 0) = some (Value.bool (decide ((k + i) % 3 = 0)), H1) := Sl.ld h1 hin (by simp [hin])
      have hr : abin .rem (.int .i64 ((k + i : Nat) : Int)) (.int .i64 3) = some (.int .i64 (((k + i) % 3 : Nat) : Int)) := by
        rw [abin_rem (by decide), Int.tmod_eq_emod_of_nonneg (by omega)]
        rfl
      have hd : decide ((((k + i) % 3 : Nat) : Int) = 0) = decide ((k + i) % 3 = 0) := by
        by_cases h0 : (k + i) % 3 = 0
        · rw [decide_eq_true h0, decide_eq_true (by omega)]
        · rw [decide_eq_false h0, decide_eq_false (by omega)]
      simp (maxSteps := 4000000) (disch := omega) only [Zq, evO, vbox, wr, Zeq, if_true, if_false, Nat.reduceEqDiff, Nat.reduceAdd, Nat.reduceLeDiff, Nat.reduceSub, and_self, and_true, true_and, reduceIte, reduceCtorEq, eq_self, implies_true, forall_const, false_implies, imp_self, decide_true, decide_false, t0, t1, t5, h1.len_, Sl.idx h1 hin, hld, hr, hd, vbinB_ne]
      exact ⟨hin, k1⟩
    · simp (maxSteps := 4000000) (disch := omega) only [Zq, evO, vbox, wr, Zeq, if_true, if_false, Nat.reduceEqDiff, Nat.reduceAdd, Nat.reduceLeDiff, Nat.reduceSub, and_self, and_true, true_and, reduceIte, reduceCtorEq, eq_self, implies_true, forall_const, false_implies, imp_self, decide_true, decide_false, t0, t1, t5, h1.len_]
      obtain rfl : i = xs.length := by omega
      exact ⟨k1, rfl⟩
end Go.Proofs.Ytkadelndmaegdaa.AX
