/- The pure statement of the law FnExactAccept: at every argument within the sizes that the statement names, the printed law answers true after some number of rounds. No condition beyond those of the statement. -/
import Derived.Test.YtdilinjockobaaaPFnExactAcceptx1
import Derived.Test.YtdilinjockobaaaPl
namespace Go.Proofs.Ytdilinjockobaaa.Pure
open Go.RowKit Go.Proofs.Ytdilinjockobaaa.PFnExactAccept Go.Proofs.YtdilinjockobaaaW.PrintWords Go.Proofs.YtdilinjockobaaaW.PrintLast Go.Proofs.YtdilinjockobaaaW.PrintMore Go.Proofs.Ytdilinjockobaaa.Pl
set_option linter.unusedVariables false
set_option linter.unusedSimpArgs false
namespace FnExactAccept
theorem spec_in (x a b : Int) : spec_l01In.f x a b = some (decide (a ≤ x ∧ x ≤ b)) := by
  unfold spec_l01In.f
  by_cases h : a ≤ x <;> simp [h]

theorem impl_in (x a b : Int) : impl_between.f x a b = some (decide (a ≤ x ∧ x ≤ b)) := by
  unfold impl_between.f
  by_cases h : a ≤ x <;> simp [h]
end FnExactAccept
open FnExactAccept
theorem FnExactAccept : laws_FnExactAccept.Pure := by
  intro a b _ _
  have e : impl_Accept.f 1 a b = spec_Accept.f 1 a b := rfl
  have h : ∃ r, spec_Accept.f 1 a b = some r := by
    unfold spec_Accept.f
    rw [spec_in, spec_in]
    simp only [Option.bind_some, spec_Accept.j0]
    repeat' split
    all_goals exact ⟨_, rfl⟩
  obtain ⟨r, h⟩ := h
  refine ⟨1, ?_⟩
  unfold laws_FnExactAccept.f
  rw [e, h]
  simp
end Go.Proofs.Ytdilinjockobaaa.Pure
