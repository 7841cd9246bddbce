/- The longest stretch without a rest: both ways of reckoning it. Plain. No condition; nothing of the program. -/
import Derived.Test.YtiajbefljkikiaaAXa
namespace Go.Proofs.Ytiajbefljkikiaa.AX
open Go
section
variable (g : Nat → Bool) (L : Nat → Int)
def sI : Nat → Int
  | 0 => 0
  | i + 1 => (if g i = true then 0 else sI i) + L i
def mI : Nat → Int
  | 0 => 0
  | i + 1 => if mI i < sI g L (i + 1) then sI g L (i + 1) else mI i
/-- Where the stretch that a place belongs to begins. -/
def bS : Nat → Nat
  | 0 => 0
  | k + 1 => if g (k + 1) = true then k + 1 else bS k
variable {g L}
theorem sI_nn (hL : ∀ i, 0 ≤ L i) : ∀ i, 0 ≤ sI g L i
  | 0 => Int.le_refl _
  | i + 1 => by
    have h1 := sI_nn hL i
    have h2 := hL i
    rw [sI]
    split <;> omega
theorem mI_ge : ∀ {n i : Nat}, i < n → sI g L (i + 1) ≤ mI g L n
  | 0, i, h => by omega
  | n + 1, i, h => by
    rw [mI]
    by_cases e : i = n
    · subst e
      split <;> omega
    · have := mI_ge (n := n) (i := i) (by omega)
      split <;> omega
theorem mI_nn : ∀ n : Nat, 0 ≤ mI g L n
  | 0 => Int.le_refl _
  | n + 1 => by
    have := mI_nn n
    rw [mI]
    split <;> omega
theorem mI_le {M : Int} (h0 : 0 ≤ M) : ∀ {n : Nat}, (∀ k, k < n → sI g L (k + 1) ≤ M) → mI g L n ≤ M
  | 0, _ => h0
  | n + 1, h => by
    have h1 := mI_le h0 (n := n) (fun k hk => h k (by omega))
    have h2 := h n (by omega)
    rw [mI]
    split <;> omega
theorem bS_le : ∀ k, bS g k ≤ k
  | 0 => Nat.le_refl _
  | k + 1 => by
    have := bS_le k
    rw [bS]
    split <;> omega
theorem bS_idem : ∀ k, bS g (bS g k) = bS g k
  | 0 => rfl
  | k + 1 => by
    rw [bS]
    split
    · rename_i h
      rw [bS, if_pos h]
    · exact bS_idem k
theorem bS_ge {k : Nat} (h : g k = true) : ∀ j, k ≤ j → k ≤ bS g j
  | 0, hj => by omega
  | j + 1, hj => by
    rw [bS]
    split
    · exact hj
    · rename_i hg
      by_cases e : k = j + 1
      · subst e; exact absurd h hg
      · exact bS_ge h j (by omega)
theorem bS_same {k : Nat} (h : g (k + 1) = false) : bS g (k + 1) = bS g k := by rw [bS, if_neg (by rw [h]; simp)]
theorem bS_start {i : Nat} (h : bS g i = i) : i = 0 ∨ g i = true := by
  cases i with
  | zero => exact .inl rfl
  | succ i =>
    rw [bS] at h
    split at h
    · rename_i hg; exact .inr hg
    · have := bS_le (g := g) i; omega
/-- What is known within a window that begins at i and has come to k. -/
structure Wnd (g : Nat → Bool) (L : Nat → Int) (n i k : Nat) (s M : Int) : Prop where
  ik : i ≤ k
  kn : k ≤ n
  s0 : k = i → s = 0
  sn : 0 ≤ s
  sle : i < k → s ≤ sI g L k
  seq : i < k → bS g i = i → s = sI g L k
  run : ∀ j, i ≤ j → j < k → bS g j = bS g i
  m0 : 0 ≤ M
  mle : M ≤ mI g L n
  old : ∀ j, j < n → bS g j < i → sI g L (j + 1) ≤ M
  new : bS g i = i → ∀ j, i ≤ j → j < k → sI g L (j + 1) ≤ M
structure Out (g : Nat → Bool) (L : Nat → Int) (n i : Nat) (M : Int) : Prop where
  kn : i ≤ n
  m0 : 0 ≤ M
  mle : M ≤ mI g L n
  old : ∀ j, j < n → bS g j < i → sI g L (j + 1) ≤ M
theorem Out.zero (n : Nat) : Out g L n 0 0 := ⟨Nat.zero_le _, Int.le_refl _, mI_nn n, fun j _ h => by omega⟩
theorem Out.wnd {n i : Nat} {M : Int} (h : Out g L n i M) : Wnd g L n i i 0 M :=
  ⟨Nat.le_refl _, h.kn, fun _ => rfl, Int.le_refl _, fun h => by omega, fun h => by omega, fun j h1 h2 => by omega, h.m0, h.mle, h.old, fun _ j h1 h2 => by omega⟩
theorem Out.fin {n : Nat} {M : Int} (h : Out g L n n M) : M = mI g L n :=
  Int.le_antisymm h.mle (mI_le h.m0 fun k hk => h.old k hk (by have := bS_le (g := g) k; omega))
theorem Wnd.step {n i k : Nat} {s M : Int} (hL : ∀ i, 0 ≤ L i) (h : Wnd g L n i k s M) (hk : k < n) (hg : i < k → g k = false) : Wnd g L n i (k + 1) (s + L k) (if M < s + L k then s + L k else M) := by
  have hs : s + L k ≤ sI g L (k + 1) := by
    rw [sI]
    by_cases e : k = i
    · have := h.s0 e
      have := sI_nn (g := g) hL k
      split <;> omega
    · have h1 := h.sle (by have := h.ik; omega)
      rw [if_neg (by rw [hg (by have := h.ik; omega)]; simp)]
      omega
  have hq : bS g i = i → s + L k = sI g L (k + 1) := by
    intro hb
    rw [sI]
    by_cases e : k = i
    · have := h.s0 e
      subst e
      rcases bS_start hb with h0 | h0
      · subst h0
        split
        · omega
        · rw [sI]; omega
      · rw [if_pos h0]; omega
    · have h1 := h.seq (by have := h.ik; omega) hb
      rw [if_neg (by rw [hg (by have := h.ik; omega)]; simp)]
      omega
  have hm := mI_ge (g := g) (L := L) hk
  have hLk := hL k
  have hsn := h.sn
  have hle := h.mle
  have h0 := h.m0
  refine ⟨by have := h.ik; omega, hk, fun e => by have := h.ik; omega, by omega, fun _ => hs, fun _ hb => hq hb, fun j h1 h2 => ?_, by split <;> omega, by split <;> omega, fun j h1 h2 => ?_, fun hb j h1 h2 => ?_⟩
  · by_cases e : j = k
    · subst e
      by_cases e2 : j = i
      · rw [e2]
      · obtain ⟨q, rfl⟩ : ∃ q, j = q + 1 := ⟨j - 1, by omega⟩
        rw [bS_same (hg (by omega))]
        exact h.run q (by omega) (by omega)
    · exact h.run j h1 (by omega)
  · have := h.old j h1 h2
    split <;> omega
  · by_cases e : j = k
    · subst e
      have := hq hb
      split <;> omega
    · have := h.new hb j h1 (by omega)
      split <;> omega
theorem Wnd.out {n i k : Nat} {s M : Int} (h : Wnd g L n i k s M) (hi : i < n) (hk : k = n ∨ i < k ∧ g k = true) : Out g L n (i + 1) M := by
  refine ⟨by omega, h.m0, h.mle, fun j h1 h2 => ?_⟩
  by_cases e : bS g j < i
  · exact h.old j h1 e
  · have e1 : bS g j = i := by omega
    have e2 : bS g i = i := by rw [← e1]; exact bS_idem j
    have hj : i ≤ j := by have := bS_le (g := g) j; omega
    refine h.new e2 j hj ?_
    rcases hk with rfl | ⟨h3, h4⟩
    · exact h1
    · apply Classical.byContradiction
      intro hn
      have := bS_ge h4 j (by omega)
      omega
end
end Go.Proofs.Ytiajbefljkikiaa.AX
