/- The laws' own readers of the code that they draw from. No condition beyond each law's own; of the program: the functions' forms. -/
import Derived.Test.YtiajbefljkikiaaDoorXG
import Derived.Test.YtiajbefljkikiaaDoorAXza
namespace Go.Proofs.YtiajbefljkikiaaDoor.AX
open Go
set_option maxRecDepth 10000
set_option maxHeartbeats 4000000
set_option linter.unusedSimpArgs false
set_option linter.unusedVariables false
abbrev Bts' := IntsK .u8
theorem getD_mem {xs : List Int} {i : Nat} (h : i < xs.length) : xs.getD i 0 ∈ xs := by
  have e : xs.getD i 0 = xs[i] := by simp [List.getD, List.getElem?_eq_getElem h]
  rw [e]; exact List.getElem_mem h
/-- A byte of the code, or one made up behind its end. -/
def atR (code : List Int) (i : Nat) : Int := if i < code.length then code.getD i 0 else ((i * 11 + code.length * 3 : Nat) : Int).tmod 256
theorem atR_range {code : List Int} {i : Nat} (hc : ∀ x ∈ code, 0 ≤ x ∧ x ≤ 255) : 0 ≤ atR code i ∧ atR code i ≤ 255 := by
  unfold atR
  split
  · rename_i h
    exact hc _ (getD_mem h)
  · rw [Int.tmod_eq_emod_of_nonneg (by omega)]
    omega
theorem r_laws_big {H : Heap} {v : Value} {xs : List Int} (h : Bts' H v xs) : Run Tryd.prog 6 [v] H fun r H' => Keep H H' ∧ r = .bool (decide ((1048576 : Int) < xs.length)) := by
  refine Run.intro c6 rfl ?_
  simp (maxSteps := 4000000) (disch := omega) only [Zq, evO, vbox, wr, Zeq, if_true, if_false, Nat.reduceEqDiff, Nat.reduceAdd, Nat.reduceLeDiff, Nat.reduceSub, and_self, and_true, true_and, reduceIte, reduceCtorEq, eq_self, implies_true, forall_const, false_implies, imp_self, decide_true, decide_false, x6, h.len_]
  exact Keep.refl _
theorem tmod_range {x k : Int} (hx : 0 ≤ x) (hk : 0 < k) : 0 ≤ x.tmod k ∧ x.tmod k < k := by
  rw [Int.tmod_eq_emod_of_nonneg hx]
  exact ⟨Int.emod_nonneg _ (by omega), Int.emod_lt_of_pos _ hk⟩
end Go.Proofs.YtiajbefljkikiaaDoor.AX
