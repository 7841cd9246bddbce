/- The day's runs, one behind the other, plain. No condition beyond each law's own; nothing of the program. -/
import Derived.Test.YtjjglonmaajjoaaPdn
namespace Go.Proofs.Ytjjglonmaajjoaa.AX
open Go
set_option maxRecDepth 10000
set_option linter.unusedSimpArgs false
set_option linter.unusedVariables false
section
variable {es : List Ed} {l : List Tp} {la : List Int} {m : Int}
theorem pkT_min {S : Sd} {n b : Nat} {w : Int} (h : pkT es l la S n = some (b, w)) : ∀ j, j < n → fin l S j = false → w ≤ cnd es l la S j := by
  induction n generalizing b w with
  | zero => cases h
  | succ n ih =>
    intro j hj hf
    rw [pkT] at h
    split at h
    · rename_i hn
      have : j ≠ n := fun e => by rw [e, hn] at hf; cases hf
      exact ih h j (by omega) hf
    · cases hp : pkT es l la S n with
      | none =>
        rw [hp] at h
        simp only [Option.some.injEq, Prod.mk.injEq] at h
        by_cases e : j = n
        · rw [e]; omega
        · have := pkT_fin hp j (by omega)
          rw [this] at hf
          cases hf
      | some q =>
        obtain ⟨b', w'⟩ := q
        rw [hp] at h
        simp only [] at h
        have ihj := fun (hjn : j < n) => ih hp j hjn hf
        split at h
        · simp only [Option.some.injEq, Prod.mk.injEq] at h
          by_cases e : j = n
          · rw [e]; omega
          · have := ihj (by omega); omega
        · simp only [Option.some.injEq, Prod.mk.injEq] at h
          by_cases e : j = n
          · rw [e]; omega
          · have := ihj (by omega); omega
def z0 (l : List Tp) : List Int := List.replicate l.length 0
end
end Go.Proofs.Ytjjglonmaajjoaa.AX
