/- Phases: the plain laws of what it answers. No condition beyond each law's own; nothing of the program. -/
import Derived.Test.YtdilinjockobaaaPh
namespace Go.Proofs.Ytdilinjockobaaa.AX
open Go
set_option maxRecDepth 10000
set_option linter.unusedSimpArgs false
set_option linter.unusedVariables false
theorem mem_seg {feed : List Int} {a m : Nat} {x : Int} : x ∈ (feed.drop a).take m ↔ ∃ j, a ≤ j ∧ j < a + m ∧ feed[j]? = some x := by
  rw [List.mem_iff_getElem?]
  constructor
  · rintro ⟨i, hi⟩
    rw [List.getElem?_take] at hi
    split at hi
    · rw [List.getElem?_drop] at hi
      exact ⟨a + i, by omega, by omega, hi⟩
    · cases hi
  · rintro ⟨j, h1, h2, h3⟩
    refine ⟨j - a, ?_⟩
    rw [List.getElem?_take, if_pos (by omega), List.getElem?_drop, show a + (j - a) = j by omega]
    exact h3
theorem ph_in {r : Int} (hr : r ≠ 4) : ∀ {xs : List Int} {acc : Int}, xs.foldl phStep acc = r → (acc = 0 ∨ acc = r) ∧ ∀ x ∈ xs, x = 0 ∨ x = r
  | [], acc, h => ⟨.inr h, fun x hx => by cases hx⟩
  | x :: xs, acc, h => by
    rw [List.foldl_cons] at h
    obtain ⟨h1, h2⟩ := ph_in hr h
    unfold phStep at h1
    by_cases hx : x = 0 ∨ x = acc
    · rw [if_pos hx] at h1
      refine ⟨h1, fun y hy => ?_⟩
      rcases List.mem_cons.1 hy with rfl | hy
      · rcases hx with hx | hx
        · exact .inl hx
        · rw [hx]; exact h1
      · exact h2 y hy
    · rw [if_neg hx] at h1
      by_cases ha : acc = 0
      · rw [if_pos ha] at h1
        refine ⟨.inl ha, fun y hy => ?_⟩
        rcases List.mem_cons.1 hy with rfl | hy
        · exact h1
        · exact h2 y hy
      · rw [if_neg ha] at h1
        omega
theorem ph_of {p : Int} : ∀ {ys : List Int} {acc : Int}, (acc = 0 ∨ acc = p) → (∀ y ∈ ys, y = 0 ∨ y = p) → (ys.foldl phStep acc = 0 ∨ ys.foldl phStep acc = p)
  | [], acc, h, _ => h
  | y :: ys, acc, h, hy => by
    rw [List.foldl_cons]
    refine ph_of ?_ (fun z hz => hy z (by simp [hz]))
    have h1 := hy y (by simp)
    unfold phStep
    split
    · exact h
    · split
      · exact h1
      · omega
theorem loG_mono {cl cl' : List Bool} (h : ∀ j, cAt cl' j = true → cAt cl j = true) : ∀ k, loG cl k ≤ loG cl' k
  | 0 => Nat.le_refl _
  | k + 1 => by
    have ih := loG_mono h k
    have hle := loG_le cl (k + 1)
    by_cases h1 : cAt cl' k = true
    · rw [loG, loG, if_pos h1, if_pos (h k h1)]; exact ih
    · conv => rhs; rw [loG, if_neg h1]
      exact hle
theorem hiF_mono {cl cl' : List Bool} (h : ∀ j, cAt cl' j = true → cAt cl j = true) : ∀ f i, hiF cl' i f ≤ hiF cl i f
  | 0, i => Nat.le_refl _
  | f + 1, i => by
    have ih := hiF_mono h f (i + 1)
    by_cases h1 : cAt cl' i = true
    · rw [hiF, hiF, if_pos h1, if_pos (h i h1)]; exact ih
    · conv => lhs; rw [hiF, if_neg h1]
      exact hiG_ge cl (f + 1) i
theorem cAt_set {cl : List Bool} {i j : Nat} (h : cAt (cl.set i false) j = true) : cAt cl j = true := by
  unfold cAt at h ⊢
  rw [List.getD_eq_getElem?_getD, List.getElem?_set] at h
  split at h
  · split at h <;> cases h
  · rwa [List.getD_eq_getElem?_getD]
/-- One switch less gives no section a phase that it had not. -/
theorem ph_less {feed : List Int} {cl : List Bool} (i k : Nat) (h : phAt feed cl k ≠ 4) : phAt feed (cl.set i false) k = 0 ∨ phAt feed (cl.set i false) k = phAt feed cl k := by
  have hm : ∀ j, cAt (cl.set i false) j = true → cAt cl j = true := fun j => cAt_set
  have h1 := loG_mono hm k
  have h2 : hiG (cl.set i false) k ≤ hiG cl k := by
    unfold hiG
    rw [List.length_set]
    exact hiF_mono hm _ _
  have h3 := (ph_in h (xs := (feed.drop (loG cl k)).take (hiG cl k + 1 - loG cl k)) (acc := 0) rfl).2
  refine ph_of (.inl rfl) (fun y hy => h3 y ?_)
  obtain ⟨j, h4, h5, h6⟩ := mem_seg.1 hy
  exact mem_seg.2 ⟨j, by omega, by omega, h6⟩
theorem ph_joined {feed : List Int} {cl : List Bool} {i : Nat} (hi : i < cl.length) (h : cAt cl i = true) : phAt feed cl i = phAt feed cl (i + 1) := by
  unfold phAt
  rw [hiG_step hi, if_pos h, show loG cl (i + 1) = loG cl i by rw [loG, if_pos h]]
theorem cAt_rep (n j : Nat) : cAt (List.replicate n false) j = false := by
  unfold cAt
  rw [List.getD_eq_getElem?_getD, List.getElem?_replicate]
  split <;> rfl
theorem ph_apart (feed : List Int) (n : Nat) : phL feed (List.replicate n false) = feed := by
  refine List.ext_getElem? fun i => ?_
  by_cases hi : i < feed.length
  · have h1 : loG (List.replicate n false) i = i := by
      cases i with
      | zero => rfl
      | succ i => rw [loG, cAt_rep]; rfl
    have h2 : hiG (List.replicate n false) i = i := by
      by_cases h3 : i < (List.replicate n false).length
      · rw [hiG_step h3, cAt_rep]; rfl
      · exact hiG_end (by omega)
    have h4 : (feed.drop i).take 1 = [feed[i]] := by
      rw [List.drop_eq_getElem_cons hi]; rfl
    have h5 : phAt feed (List.replicate n false) i = feed[i] := by
      unfold phAt
      rw [h1, h2, show i + 1 - i = 1 by omega, h4]
      show phStep 0 feed[i] = feed[i]
      unfold phStep
      split
      · rename_i h; rcases h with h | h <;> exact h.symm
      · rfl
    rw [List.getElem?_eq_getElem hi, List.getElem?_eq_getElem (by rw [phL_len]; exact hi)]
    simp [phL, h5]
  · rw [List.getElem?_eq_none (by rw [phL_len]; omega), List.getElem?_eq_none (by omega)]
theorem phL_getD {feed : List Int} {cl : List Bool} {i : Nat} (hi : i < feed.length) : (phL feed cl).getD i 0 = phAt feed cl i := by
  simp [phL, List.getD, hi]
end Go.Proofs.Ytdilinjockobaaa.AX
