/- FnPlan: the row, out of the executor's run. No condition; of the program: that its tables are as they are. -/
import Derived.Test.YtjjglonmaajjoaaRows
import Derived.Test.YtjjglonmaajjoaaPfLaw
import Derived.ProofKit
import Derived.OpenShut
import Derived.ChangeOld
import Derived.Below
import Derived.SizedLaws
namespace Go.Proofs.Ytjjglonmaajjoaa.fnPlan
open Go.ChangeShapes Go.WideShapes Go.ChangeAt Go.RowKit Go.Proofs.Ytjjglonmaajjoaa.AX
set_option linter.unusedVariables false
theorem own : ownKnob Try.prog.godebug = none := by kernel_rfl
theorem laidOut : laidOutB Try.prog = true := by kernel_rfl
theorem mixed : Try.prog.follows .mixedOrders = true := by kernel_rfl
theorem plain : ∀ t ∈ Try.f3.params.toList, plainT Try.prog 9 t = true := by
  have h : (Try.f3.params.toList.all fun t => plainT Try.prog 9 t) = true := by kernel_rfl
  exact List.all_eq_true.1 h
theorem readable : ∀ t ∈ Try.f3.params.toList, Try.prog.readableRec t = true ∧ t < Try.prog.types.size := by
  have h : (Try.f3.params.toList.all fun t => Try.prog.readableRec t && decide (t < Try.prog.types.size)) = true := by kernel_rfl
  intro t ht
  have := List.all_eq_true.1 h t ht
  simp only [Bool.and_eq_true] at this
  exact ⟨this.1, of_decide_eq_true this.2⟩
theorem count {A : Type} {enc : TypeId × Value → A} {w : World} {base : Nat} {spare : Nat → Bool} {held : Bool} {vs : List Value} {ds : List (DataW A)} {p : List MemPlace} (h : DataW.TrodAll enc Try.prog w base spare held Try.f3.params.toList vs ds p) : ∃ d0, ds = [d0] := by
  rw [Try.params3] at h
  obtain ⟨v0, vs0, d0, ds0, p0, q0, e0, f0, g0, h0, r0⟩ := trodAll_cons h
  obtain ⟨_, e, _⟩ := trodAll_nil r0
  exact ⟨d0, by simp only [f0, e]⟩
set_option maxRecDepth 100000 in
theorem lifted (os : Os) (started : os.Started) (H : Type) (enc : TypeId × Value → H) :
    ReturnsInHanded {} Try.checked os 3 .any (Rows.fnPlanSpec.pre6 enc Try.prog Try.f3 Rows.fnPlanRow.domain false) (Rows.fnPlanSpec.post enc Try.prog Try.f3 false true false false) := by
  refine returnsInHanded_of_change_sized (C := Try.checked) own started (by kernel_rfl) Try.func3
    (ChangeSpec.witness6 (enc := enc) (C := Try.checked) false ⟨#[], #[(.slice none 0 0)], []⟩ 8 (by kernel_rfl) (by kernel_rfl) (by kernel_rfl) (by kernel_rfl)) ?_
  intro W base args ds gs before hval hW hcnd hsz _
  have hW' := hW
  obtain ⟨p, q, hA, hV, rfl, hfz, hnd⟩ := hW
  obtain ⟨rfl, rfl⟩ := trodVars_none hV
  have hA' : DataW.TrodAll enc Try.prog W 0 (fun _ => true) true Try.f3.params.toList args.toList ds p := hA
  have ok : ∀ (j : Nat) (t : TypeId) (v : Value), Try.f3.params.toList[j]? = some t → args.toList[j]? = some v → Value.okWide Try.prog W .any base t v := fun j t v h1 h2 => hval j t v (by simpa using h1) (by simpa using h2)
  refine (calls_of_run mixed plain hA' ok go_laws_FnPlan).mono fun e W' ⟨he, bel⟩ => ?_
  subst he
  obtain ⟨d0, rfl⟩ := count hA'
  exact ⟨_, rfl, _, _, _, [], _, [], hW', trodAll_mk1 (shut_bool (t := 4) (by kernel_rfl) _), trod_all_below laidOut readable hA' bel, rfl, bel.frame _, fun h => by cases h⟩
theorem over : Rows.fnPlanRow.holds Try.pinned (OpenSpec.ofChange Rows.fnPlanSpec) :=
  OpenClaim.holds_of_wide 3 Try.f3 rfl rfl rfl rfl rfl rfl rfl ⟨rfl, rfl, rfl, rfl, rfl⟩ rfl rfl rfl rfl rfl (by kernel_rfl) Try.func3 (by kernel_rfl)
    (of_decide_eq_true (by kernel_rfl)) (by unfold Func.isWrapper; first | (rw [if_pos (by decide +kernel)]; kernel_rfl) | (rw [if_neg (by decide +kernel)]; exact ⟨rfl, rfl⟩))
    (fun os started H enc _ => lifted os started H enc)
theorem proved : Rows.FnPlanSaid := over
end Go.Proofs.Ytjjglonmaajjoaa.fnPlan
namespace Go.Proofs.Ytjjglonmaajjoaa
/-- The row, under a short name, for the claim. -/
theorem fnPlan_holds : Rows.FnPlanSaid := fnPlan.proved
end Go.Proofs.Ytjjglonmaajjoaa
