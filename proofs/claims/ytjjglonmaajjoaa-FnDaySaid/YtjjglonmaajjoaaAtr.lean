/- The laws' own readers of the code that they draw from. No condition beyond each law's own; of the program: the functions' forms. -/
import Derived.Test.YtjjglonmaajjoaaXH
import Derived.Test.YtjjglonmaajjoaaAXzg
namespace Go.Proofs.Ytjjglonmaajjoaa.AX
open Go
set_option maxRecDepth 10000
set_option maxHeartbeats 4000000
set_option linter.unusedSimpArgs false
set_option linter.unusedVariables false
abbrev Bts' := IntsK .u8
theorem getD_mem {xs : List Int} {i : Nat} (h : i < xs.length) : xs.getD i 0 ∈ xs := by
  have e : xs.getD i 0 = xs[i] := by simp [List.getD, List.getElem?_eq_getElem h]
  rw [e]; exact List.getElem_mem h
/-- A byte of the code, or one made up behind its end. -/
def atR (code : List Int) (i : Nat) : Int := if i < code.length then code.getD i 0 else ((i * 11 + code.length * 3 : Nat) : Int).tmod 256
theorem atR_range {code : List Int} {i : Nat} (hc : ∀ x ∈ code, 0 ≤ x ∧ x ≤ 255) : 0 ≤ atR code i ∧ atR code i ≤ 255 := by
  unfold atR
  split
  · rename_i h
    exact hc _ (getD_mem h)
  · rw [Int.tmod_eq_emod_of_nonneg (by omega)]
    omega
theorem r_laws_big {H : Heap} {v : Value} {xs : List Int} (h : Bts' H v xs) : Run Try.prog 14 [v] H fun r H' => Keep H H' ∧ r = .bool (decide ((1048576 : Int) < xs.length)) := by
  refine Run.intro c14 rfl ?_
  simp (maxSteps := 4000000) (disch := omega) only [Zq, evO, vbox, wr, Zeq, if_true, if_false, Nat.reduceEqDiff, Nat.reduceAdd, Nat.reduceLeDiff, Nat.reduceSub, and_self, and_true, true_and, reduceIte, reduceCtorEq, eq_self, implies_true, forall_const, false_implies, imp_self, decide_true, decide_false, x14, h.len_]
  exact Keep.refl _
theorem r_laws_at {H : Heap} {v : Value} {code : List Int} {i : Nat} (h : Bts' H v code) (hl : code.length ≤ 1048576) (hi : i ≤ 1048576) (hc : ∀ x ∈ code, 0 ≤ x ∧ x ≤ 255) : Run Try.prog 26 [v, .int .i64 (i : Int)] H fun r H' => Keep H H' ∧ r = .int .i64 (atR code i) := by
  refine Run.intro c26 rfl ?_
  by_cases hin : i < code.length
  · have hr := hc _ (getD_mem hin)
    have hw : IntKind.i64.wrap (code.getD i 0) = code.getD i 0 := wrap64 (by omega) (by omega)
    simp (maxSteps := 4000000) (disch := omega) only [Zq, evO, vbox, wr, Zeq, if_true, if_false, Nat.reduceEqDiff, Nat.reduceAdd, Nat.reduceLeDiff, Nat.reduceSub, and_self, and_true, true_and, reduceIte, reduceCtorEq, eq_self, implies_true, forall_const, false_implies, imp_self, decide_true, decide_false, x26, h.len_, h.idx hin, h.ld hin, hw]
    exact ⟨Keep.refl _, by rw [atR, if_pos hin]⟩
  · have h1 : IntKind.i64.wrap ((i : Int) * 11) = ((i * 11 : Nat) : Int) := by rw [wrap64 (by omega) (by omega)]; omega
    have h2 : IntKind.i64.wrap ((code.length : Int) * 3) = ((code.length * 3 : Nat) : Int) := by rw [wrap64 (by omega) (by omega)]; omega
    have h3 : IntKind.i64.wrap (((i * 11 : Nat) : Int) + ((code.length * 3 : Nat) : Int)) = ((i * 11 + code.length * 3 : Nat) : Int) := by rw [wrap64 (by omega) (by omega)]; omega
    have h4 : abin .rem (.int .i64 ((i * 11 + code.length * 3 : Nat) : Int)) (.int .i64 256) = some (.int .i64 (((i * 11 + code.length * 3 : Nat) : Int).tmod 256)) := abin_rem (by omega)
    simp (maxSteps := 4000000) (disch := omega) only [Zq, evO, vbox, wr, Zeq, if_true, if_false, Nat.reduceEqDiff, Nat.reduceAdd, Nat.reduceLeDiff, Nat.reduceSub, and_self, and_true, true_and, reduceIte, reduceCtorEq, eq_self, implies_true, forall_const, false_implies, imp_self, decide_true, decide_false, x26, h.len_, h1, h2, h3, h4]
    exact ⟨Keep.refl _, by rw [atR, if_neg hin]⟩
theorem tmod_range {x k : Int} (hx : 0 ≤ x) (hk : 0 < k) : 0 ≤ x.tmod k ∧ x.tmod k < k := by
  rw [Int.tmod_eq_emod_of_nonneg hx]
  exact ⟨Int.emod_nonneg _ (by omega), Int.emod_lt_of_pos _ hk⟩
end Go.Proofs.Ytjjglonmaajjoaa.AX
