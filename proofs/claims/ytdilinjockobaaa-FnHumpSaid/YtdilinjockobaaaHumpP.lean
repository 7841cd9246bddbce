/- The hump sorts: the plain law. No condition beyond each law's own; nothing of the program. -/
import Derived.Test.YtdilinjockobaaaHumpSort
namespace Go.Proofs.Ytdilinjockobaaa.AX
open Go
set_option maxRecDepth 10000
set_option linter.unusedSimpArgs false
set_option linter.unusedVariables false
/-- What lies on the first tracks, in order: by the digit first, and what was ahead stays ahead on one track. -/
theorem humpL_pair {B w : Nat} {R S : Int → Int → Prop} {xs : List Int} (h : xs.Pairwise S) (hs : ∀ a b, a ∈ xs → b ∈ xs → dig B w a = dig B w b → S a b → R a b) (hd : ∀ a b, a ∈ xs → b ∈ xs → dig B w a < dig B w b → R a b) : ∀ t, (humpL B w xs t).Pairwise R ∧ ∀ x ∈ humpL B w xs t, x ∈ xs ∧ dig B w x < t
  | 0 => ⟨List.Pairwise.nil, fun x hx => by cases hx⟩
  | t + 1 => by
    obtain ⟨h1, h2⟩ := humpL_pair h hs hd t
    have h3 : ∀ x ∈ track B w t xs, x ∈ xs ∧ dig B w x = t := fun x hx => by
      obtain ⟨h4, h5⟩ := List.mem_filter.1 hx
      exact ⟨h4, by simpa [dig] using h5⟩
    refine ⟨List.pairwise_append.2 ⟨h1, ?_, fun a ha b hb => ?_⟩, fun x hx => ?_⟩
    · have h4 : (track B w t xs).Pairwise S := h.sublist (List.filter_sublist)
      refine h4.imp_of_mem (fun {a b} ha hb hab => hs a b (h3 a ha).1 (h3 b hb).1 (by rw [(h3 a ha).2, (h3 b hb).2]) hab)
    · have h4 := h2 a ha
      have h5 := h3 b hb
      exact hd a b h4.1 h5.1 (by omega)
    · rcases List.mem_append.1 hx with hx | hx
      · have := h2 x hx
        exact ⟨this.1, by omega⟩
      · have := h3 x hx
        exact ⟨this.1, by omega⟩
theorem humpL_count {B w : Nat} {xs : List Int} (y : Int) : ∀ t, (humpL B w xs t).count y = if 0 ≤ dig B w y ∧ dig B w y < t then xs.count y else 0
  | 0 => by
    rw [if_neg (by omega)]
    rfl
  | t + 1 => by
    rw [humpL, List.count_append, humpL_count y t]
    have h : (track B w t xs).count y = if dig B w y = t then xs.count y else 0 := by
      unfold track
      by_cases hy : dig B w y = t
      · rw [if_pos hy, List.count_filter (by simpa [dig] using hy)]
      · rw [if_neg hy]
        refine List.count_eq_zero.2 (fun hm => hy ?_)
        have := (List.mem_filter.1 hm).2
        simpa [dig] using this
    rw [h]
    by_cases h1 : 0 ≤ dig B w y ∧ dig B w y < t
    · rw [if_pos h1, if_neg (by omega), if_pos (by omega)]
      omega
    · rw [if_neg h1]
      by_cases h2 : dig B w y = t
      · rw [if_pos h2, if_pos (by omega)]
        omega
      · rw [if_neg h2, if_neg (by omega)]
theorem dig_range {B w : Nat} {x : Int} (hB : 0 < B) (hx : 0 ≤ x) : 0 ≤ dig B w x ∧ dig B w x < B := by
  obtain ⟨X, rfl⟩ : ∃ X : Nat, x = X := ⟨x.toNat, by omega⟩
  have h : dig B w (X : Int) = ((X / w % B : Nat) : Int) := rfl
  rw [h]
  have := Nat.mod_lt (X / w) hB
  omega
theorem sortL_count {B : Nat} {xs : List Int} (hB : 0 < B) (hx : ∀ x ∈ xs, 1 ≤ x ∧ x ≤ 9999) (hl : xs.length ≤ 40) (y : Int) : ∀ n, (sortL B xs n).count y = xs.count y
  | 0 => rfl
  | n + 1 => by
    rw [sortL, humpL_count, sortL_count hB hx hl y n]
    split
    · rfl
    · rename_i h
      by_cases hy : y ∈ xs
      · have := dig_range (B := B) (w := B ^ n) hB (show 0 ≤ y by have := hx y hy; omega)
        omega
      · exact (List.count_eq_zero.2 hy).symm
/-- Behind k passes the train stands by the last k digits. -/
theorem sortL_pair {B : Nat} {xs : List Int} (hB : 0 < B) (hx : ∀ x ∈ xs, 1 ≤ x ∧ x ≤ 9999) (hl : xs.length ≤ 40) : ∀ n, (sortL B xs n).Pairwise fun a b => a.toNat % B ^ n ≤ b.toNat % B ^ n
  | 0 => by
    rw [sortL]
    refine List.pairwise_of_forall (fun a b => ?_)
    simp [Nat.mod_one]
  | n + 1 => by
    have ih := sortL_pair hB hx hl n
    have hok := (sortL_ok (B := B) hl hx n).2
    have hdig : ∀ x : Int, 0 ≤ x → x.toNat % B ^ (n + 1) = B ^ n * (dig B (B ^ n) x).toNat + x.toNat % B ^ n := by
      intro x h0
      obtain ⟨X, rfl⟩ : ∃ X : Nat, x = X := ⟨x.toNat, by omega⟩
      have h : dig B (B ^ n) (X : Int) = ((X / B ^ n % B : Nat) : Int) := rfl
      rw [h, Int.toNat_natCast, Int.toNat_natCast, Nat.pow_succ, Nat.mod_mul, Nat.add_comm]
    refine (humpL_pair (R := fun a b => a.toNat % B ^ (n + 1) ≤ b.toNat % B ^ (n + 1)) ih (fun a b ha hb he hab => ?_) (fun a b ha hb hlt => ?_) B).1
    · have h1 := hok a ha
      have h2 := hok b hb
      show a.toNat % B ^ (n + 1) ≤ b.toNat % B ^ (n + 1)
      rw [hdig a (by omega), hdig b (by omega), he]
      have hab' : a.toNat % B ^ n ≤ b.toNat % B ^ n := hab
      omega
    · have h1 := hok a ha
      have h2 := hok b hb
      show a.toNat % B ^ (n + 1) ≤ b.toNat % B ^ (n + 1)
      rw [hdig a (by omega), hdig b (by omega)]
      have h3 := dig_range (B := B) (w := B ^ n) (x := a) hB (by omega)
      have h4 := dig_range (B := B) (w := B ^ n) (x := b) hB (by omega)
      have h5 : (dig B (B ^ n) a).toNat + 1 ≤ (dig B (B ^ n) b).toNat := by omega
      have h6 : B ^ n * ((dig B (B ^ n) a).toNat + 1) ≤ B ^ n * (dig B (B ^ n) b).toNat := Nat.mul_le_mul_left _ h5
      have h7 := Nat.mod_lt a.toNat (Nat.pow_pos (n := n) hB)
      rw [Nat.mul_add, Nat.mul_one] at h6
      have h8 := Nat.zero_le (b.toNat % B ^ n)
      generalize B ^ n * (dig B (B ^ n) b).toNat = X at *
      generalize B ^ n * (dig B (B ^ n) a).toNat = Y at *
      generalize b.toNat % B ^ n = Z at *
      generalize a.toNat % B ^ n = W at *
      omega
theorem sortL_sorted {B D : Nat} {xs : List Int} (hB : 0 < B) (hx : ∀ x ∈ xs, 1 ≤ x ∧ x ≤ 9999) (hl : xs.length ≤ 40) (hD : ∀ x ∈ xs, x.toNat < B ^ D) : (sortL B xs D).Pairwise fun a b => a ≤ b := by
  have hm : ∀ x ∈ sortL B xs D, x ∈ xs := fun x h => by
    have h1 := sortL_count hB hx hl x D
    have h2 := List.count_pos_iff.2 h
    exact List.count_pos_iff.1 (by omega)
  refine (sortL_pair hB hx hl D).imp_of_mem (fun {a b} ha hb hab => ?_)
  have h1 := hD a (hm a ha)
  have h2 := hD b (hm b hb)
  have h3 := hx a (hm a ha)
  have h4 := hx b (hm b hb)
  rw [Nat.mod_eq_of_lt h1, Nat.mod_eq_of_lt h2] at hab
  omega
theorem inv_sorted : ∀ {xs : List Int}, xs.Pairwise (fun a b => a ≤ b) → invL xs = 0
  | [], _ => rfl
  | x :: xs, h => by
    obtain ⟨h1, h2⟩ := List.pairwise_cons.1 h
    rw [invL, inv_sorted h2, Nat.add_zero]
    refine List.countP_eq_zero.2 (fun y hy => ?_)
    have := h1 y hy
    simp; omega
/-- Two sorted lists with the same members, each as often, are one. -/
theorem sorted_eq : ∀ {xs ys : List Int}, xs.Pairwise (fun a b => a ≤ b) → ys.Pairwise (fun a b => a ≤ b) → (∀ z, xs.count z = ys.count z) → xs = ys
  | [], [], _, _, _ => rfl
  | [], y :: ys, _, _, h => by
    have := h y
    simp at this
  | x :: xs, [], _, _, h => by
    have := h x
    simp at this
  | x :: xs, y :: ys, hx, hy, h => by
    obtain ⟨h1, h2⟩ := List.pairwise_cons.1 hx
    obtain ⟨h3, h4⟩ := List.pairwise_cons.1 hy
    have hxy : x = y := by
      have a1 : y ∈ x :: xs := List.count_pos_iff.1 (by rw [h y]; simp)
      have a2 : x ∈ y :: ys := List.count_pos_iff.1 (by rw [← h x]; simp)
      rcases List.mem_cons.1 a1 with e | e
      · exact e.symm
      · rcases List.mem_cons.1 a2 with e' | e'
        · exact e'
        · have := h1 y e
          have := h3 x e'
          omega
    subst hxy
    rw [sorted_eq h2 h4 (fun z => by
      have := h z
      simp only [List.count_cons] at this
      omega)]
end Go.Proofs.Ytdilinjockobaaa.AX
