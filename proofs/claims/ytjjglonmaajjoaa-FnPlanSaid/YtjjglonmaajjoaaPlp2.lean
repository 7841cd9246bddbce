/- The plan of a timetable: plain. No condition; nothing of the program. -/
import Derived.Test.YtjjglonmaajjoaaAp
import Derived.Test.YtjjglonmaajjoaaSrw
namespace Go.Proofs.Ytjjglonmaajjoaa.AX
open Go
set_option linter.unusedSimpArgs false
set_option linter.unusedVariables false
def legF (i : Nat) (c : List Cl) (k : Nat) : Rn := ((i : Int), (k : Int), (cl c k).2.2, (cl c (k + 1)).2.1)
def legsU (i : Nat) (c : List Cl) (m : Nat) : List Rn := (List.range m).map (legF i c)
def allR (l : List Tp) : Nat → List Rn
  | 0 => []
  | i + 1 => allR l i ++ legsU i (tp l i).2 ((tp l i).2.length - 1)
theorem legsU_succ (i : Nat) (c : List Cl) (m : Nat) : legsU i c (m + 1) = legsU i c m ++ [legF i c m] := by
  rw [legsU, List.range_succ, List.map_append]
  rfl
theorem legsU_len (i : Nat) (c : List Cl) (m : Nat) : (legsU i c m).length = m := by simp [legsU]
theorem allR_len {l : List Tp} : ∀ {i : Nat}, (∀ j, j < i → (tp l j).2.length ≤ 12) → (allR l i).length ≤ 11 * i
  | 0, _ => Nat.le_refl _
  | i + 1, h => by
    have h1 := allR_len (l := l) (i := i) (fun j hj => h j (by omega))
    have h2 := h i (by omega)
    rw [allR, List.length_append, legsU_len]
    omega
theorem allR_trip {l : List Tp} : ∀ {i : Nat}, ∀ x ∈ allR l i, x.1 < i
  | 0, x, h => by cases h
  | i + 1, x, h => by
    rw [allR] at h
    rcases List.mem_append.1 h with h | h
    · have := allR_trip x h; omega
    · obtain ⟨k, _, rfl⟩ := List.mem_map.1 h
      show (i : Int) < ((i + 1 : Nat) : Int)
      omega
theorem allR_inc {l : List Tp} : ∀ i : Nat, (allR l i).Pairwise bfR
  | 0 => List.Pairwise.nil
  | i + 1 => by
    rw [allR, List.pairwise_append]
    refine ⟨allR_inc i, ?_, fun x hx y hy => ?_⟩
    · rw [legsU, List.pairwise_map]
      refine List.pairwise_lt_range.imp (fun {a b} h => .inr ⟨rfl, ?_⟩)
      show ((a : Nat) : Int) < (b : Int)
      omega
    · obtain ⟨k, _, rfl⟩ := List.mem_map.1 hy
      exact .inl (allR_trip x hx)
/-- The plan: by when a leg begins, then by trip and leg. -/
def leR (x y : Rn) : Bool := decide (¬ (y.2.2.1 < x.2.2.1 ∨ y.2.2.1 = x.2.2.1 ∧ (y.1 < x.1 ∨ y.1 = x.1 ∧ y.2.1 < x.2.1)))
def planR (s : List Rn) : List Rn := s.mergeSort leR
theorem planR_perm (s : List Rn) : (planR s).Perm s := List.mergeSort_perm s leR
theorem planR_inc {s : List Rn} (h : s.Pairwise bfR) : (planR s).Pairwise ltR := by
  have h1 : (planR s).Pairwise fun x y => leR x y = true := List.pairwise_mergeSort (fun x y z h1 h2 => by
    simp only [leR, decide_eq_true_eq] at *
    omega) (fun x y => by
    simp only [leR, Bool.or_eq_true, decide_eq_true_eq]
    omega) s
  have h2 : (planR s).Pairwise fun x y => bfR x y ∨ bfR y x := ((planR_perm s).pairwise_iff (fun h => h.symm)).2 (h.imp .inl)
  refine (h1.and h2).imp fun {x y} hh => ?_
  obtain ⟨a1, a2⟩ := hh
  simp only [leR, decide_eq_true_eq] at a1
  unfold bfR at a2
  unfold ltR bfR
  omega
theorem get_srt {s : List Rn} (h : s.Pairwise ltR) : Srt ltR 0 s.length (rn s) := by
  intro i j _ h1 h2
  rw [rn, rn, getD_get _ _ (by omega), getD_get _ _ h2]
  exact List.pairwise_iff_getElem.1 h i j (by omega) h2 h1
theorem mem_rn {s : List Rn} {x : Rn} (h : x ∈ s) : ∃ k, k < s.length ∧ x = rn s k := by
  obtain ⟨k, hk, e⟩ := List.getElem_of_mem h
  exact ⟨k, hk, by rw [rn, getD_get _ _ hk, e]⟩
theorem rn_mem {s : List Rn} {k : Nat} (h : k < s.length) : rn s k ∈ s := by rw [rn, getD_get _ _ h]; exact List.getElem_mem h
theorem tabX_rn (s : List Rn) : tabX (rn s) s.length = s := by
  refine List.ext_getElem? fun j => ?_
  by_cases h : j < s.length
  · rw [tabX_get h, rn, getD_get _ _ h, List.getElem?_eq_getElem h]
  · rw [List.getElem?_eq_none (by rw [tabX_len]; omega), List.getElem?_eq_none (by omega)]
/-- How many of the first places are lef. -/
def lef (p : Nat → Bool) : Nat → Nat
  | 0 => 0
  | n + 1 => lef p n + if p n = true then 1 else 0
theorem lef_all {p : Nat → Bool} : ∀ {n : Nat}, (∀ j, j < n → p j = true) → lef p n = n
  | 0, _ => rfl
  | n + 1, h => by rw [lef, lef_all (fun j hj => h j (by omega)), if_pos (h n (by omega))]
theorem lef_less {p q : Nat → Bool} {b : Nat} (hb : p b = true) (hq : q b = false) (he : ∀ j, j ≠ b → q j = p j) : ∀ {n : Nat}, b < n → lef q n + 1 = lef p n
  | 0, h => by omega
  | n + 1, h => by
    have same : ∀ {m : Nat}, m ≤ b → lef q m = lef p m := by
      intro m
      induction m with
      | zero => intro _; rfl
      | succ m ih => intro hm; rw [lef, lef, ih (by omega), he m (by omega)]
    rw [lef, lef]
    by_cases e : b = n
    · subst e
      rw [same (Nat.le_refl _), hb, hq]
      simp
    · have := lef_less hb hq he (n := n) (by omega)
      rw [he n (by omega)]
      omega
/-- The reference's choice: what is done, and what is the first of what is lef. -/
structure Sel (s : List Rn) (D : List Int) : Prop where
  rng : ∀ i, i < D.length → (D.getD i 0).toNat < s.length ∧ 0 ≤ D.getD i 0
  srt : Srt ltR 0 D.length (fun i => rn s (D.getD i 0).toNat)
  low : ∀ i, i < D.length → ∀ x : Nat, x < s.length → D.contains (x : Int) = false → ltR (rn s (D.getD i 0).toNat) (rn s x)
  cnt : D.length + lef (fun j => !D.contains (j : Int)) s.length = s.length
def Bst (s : List Rn) (D : List Int) (i : Nat) (z : Int) : Prop :=
  (z = -1 ∧ ∀ x : Nat, x < i → D.contains (x : Int) = true) ∨ ∃ b : Nat, z = b ∧ b < i ∧ D.contains (b : Int) = false ∧ ∀ x : Nat, x < i → D.contains (x : Int) = false → x ≠ b → ltR (rn s b) (rn s x)
section
variable {s : List Rn} {D : List Int} {i b : Nat} {z : Int}
theorem get_end (D : List Int) (x : Int) {i : Nat} (h : i < D.length + 1) : (D ++ [x]).getD i 0 = if i < D.length then D.getD i 0 else x := by
  rw [List.getD_eq_getElem?_getD, List.getD_eq_getElem?_getD]
  by_cases h1 : i < D.length
  · rw [if_pos h1, List.getElem?_append_left h1]
  · rw [if_neg h1, List.getElem?_append_right (by omega), show i - D.length = 0 by omega]
    rfl
theorem Sel.nil (s : List Rn) : Sel s [] :=
  ⟨fun i h => by simp at h, fun i j _ h1 h2 => by simp at h2, fun i h => by simp at h, by rw [lef_all (fun j _ => by simp)]; simp⟩
theorem Sel.app (h : Sel s D) (hb : b < s.length) (hc : D.contains (b : Int) = false) (hm : ∀ x : Nat, x < s.length → D.contains (x : Int) = false → x ≠ b → ltR (rn s b) (rn s x)) : Sel s (D ++ [(b : Int)]) := by
  have hl : (D ++ [(b : Int)]).length = D.length + 1 := by simp
  have hx : ∀ x : Nat, (D ++ [(b : Int)]).contains (x : Int) = (D.contains (x : Int) || decide (x = b)) := fun x => by
    rw [List.contains_eq_any_beq, List.contains_eq_any_beq, List.any_append]
    congr 1
    by_cases e : x = b
    · subst e; simp
    · have : ((x : Int) == (b : Int)) = false := by simp; omega
      simp [this, e]
  refine ⟨fun i hi => ?_, fun i j _ h1 h2 => ?_, fun i hi x hxs hxc => ?_, ?_⟩
  · rw [hl] at hi
    rw [get_end _ _ hi]
    by_cases h1 : i < D.length
    · rw [if_pos h1]; exact h.rng i h1
    · rw [if_neg h1]; omega
  · rw [hl] at h2
    simp only
    rw [get_end _ _ (by omega : i < D.length + 1), get_end _ _ h2, if_pos (by omega : i < D.length)]
    by_cases h3 : j < D.length
    · rw [if_pos h3]; exact h.srt i j (Nat.zero_le _) h1 h3
    · rw [if_neg h3]; exact h.low i (by omega) b hb hc
  · rw [hx] at hxc
    simp only [Bool.or_eq_false_iff, decide_eq_false_iff_not] at hxc
    rw [hl] at hi
    rw [get_end _ _ hi]
    by_cases h1 : i < D.length
    · rw [if_pos h1]; exact h.low i h1 x hxs hxc.1
    · rw [if_neg h1]; exact hm x hxs hxc.1 hxc.2
  · have := lef_less (p := fun j : Nat => !D.contains (j : Int)) (q := fun j : Nat => !(D ++ [(b : Int)]).contains (j : Int)) (b := b) (by rw [hc]; rfl) (by rw [hx]; simp) (fun j hj => by rw [hx]; simp [hj]) hb
    have := h.cnt
    rw [hl]
    omega
theorem Sel.le (h : Sel s D) : D.length ≤ s.length := by have := h.cnt; omega
theorem Bst.zero (s : List Rn) (D : List Int) : Bst s D 0 (-1) := .inl ⟨rfl, fun x hx => by omega⟩
theorem Bst.skip (h : Bst s D i z) (hc : D.contains (i : Int) = true) : Bst s D (i + 1) z := by
  rcases h with ⟨h1, h2⟩ | ⟨b, h1, h2, h3, h4⟩
  · exact .inl ⟨h1, fun x hx => by
      by_cases e : x = i
      · subst e; exact hc
      · exact h2 x (by omega)⟩
  · exact .inr ⟨b, h1, by omega, h3, fun x hx hxc hxb => h4 x (by
      by_cases e : x = i
      · subst e; rw [hc] at hxc; cases hxc
      · omega) hxc hxb⟩
end
end Go.Proofs.Ytjjglonmaajjoaa.AX
