/- A stable sort by blocks and symmetric merges: plain, over rows told by functions. No condition; nothing of the program. -/
import Derived.Test.YtjjglonmaajjoaaAXj
namespace Go.Proofs.Ytjjglonmaajjoaa.AX
open Go
section
variable {X : Type}
def sw (f : Nat → X) (i j : Nat) : Nat → X := fun k => if k = i then f j else if k = j then f i else f k
/-- g is f, turned within [a, b) alone, with the same elements there. -/
structure Rl (a b : Nat) (f g : Nat → X) : Prop where
  out : ∀ k, k < a ∨ b ≤ k → g k = f k
  into : ∀ k, a ≤ k → k < b → ∃ q, a ≤ q ∧ q < b ∧ g k = f q
  onto : ∀ k, a ≤ k → k < b → ∃ q, a ≤ q ∧ q < b ∧ f k = g q
theorem Rl.refl (a b : Nat) (f : Nat → X) : Rl a b f f := ⟨fun _ _ => rfl, fun k h1 h2 => ⟨k, h1, h2, rfl⟩, fun k h1 h2 => ⟨k, h1, h2, rfl⟩⟩
theorem Rl.trans {a b : Nat} {f g h : Nat → X} (p : Rl a b f g) (q : Rl a b g h) : Rl a b f h :=
  ⟨fun k hk => (q.out k hk).trans (p.out k hk),
   fun k h1 h2 => by obtain ⟨x, x1, x2, x3⟩ := q.into k h1 h2; obtain ⟨y, y1, y2, y3⟩ := p.into x x1 x2; exact ⟨y, y1, y2, x3.trans y3⟩,
   fun k h1 h2 => by obtain ⟨x, x1, x2, x3⟩ := p.onto k h1 h2; obtain ⟨y, y1, y2, y3⟩ := q.onto x x1 x2; exact ⟨y, y1, y2, x3.trans y3⟩⟩
theorem Rl.mono {a b a' b' : Nat} {f g : Nat → X} (p : Rl a b f g) (h1 : a' ≤ a) (h2 : b ≤ b') : Rl a' b' f g :=
  ⟨fun k hk => p.out k (by omega),
   fun k q1 q2 => by
    by_cases h : a ≤ k ∧ k < b
    · obtain ⟨x, x1, x2, x3⟩ := p.into k h.1 h.2; exact ⟨x, by omega, by omega, x3⟩
    · exact ⟨k, q1, q2, p.out k (by omega)⟩,
   fun k q1 q2 => by
    by_cases h : a ≤ k ∧ k < b
    · obtain ⟨x, x1, x2, x3⟩ := p.onto k h.1 h.2; exact ⟨x, by omega, by omega, x3⟩
    · exact ⟨k, q1, q2, (p.out k (by omega)).symm⟩⟩
/-! ### Swapping ranges, rotating -/
def swR (f : Nat → X) (a b n : Nat) : Nat → X := fun k => if a ≤ k ∧ k < a + n then f (b + (k - a)) else if b ≤ k ∧ k < b + n then f (a + (k - b)) else f k
theorem swR_zero (f : Nat → X) (a b : Nat) : swR f a b 0 = f := by
  funext k
  unfold swR
  rw [if_neg (by omega), if_neg (by omega)]
theorem swR_succ {f : Nat → X} {a b i : Nat} (h : a + i < b) : sw (swR f a b i) (a + i) (b + i) = swR f a b (i + 1) := by
  funext k
  unfold sw swR
  (repeat' split) <;> first | rfl | (exfalso; omega) | (congr 1; omega)
/-- Two blocks of i and j elements from s on, exchanged. -/
def rot (f : Nat → X) (s i j : Nat) : Nat → X := fun k => if s ≤ k ∧ k < s + j then f (k + i) else if s + j ≤ k ∧ k < s + i + j then f (k - j) else f k
theorem rot_eq {f : Nat → X} {s i : Nat} : swR f s (s + i) i = rot f s i i := by
  funext k
  unfold swR rot
  (repeat' split) <;> first | rfl | (exfalso; omega) | (congr 1; omega)
theorem rot_gt {f : Nat → X} {s i j : Nat} (h : j < i) : rot (swR f s (s + i) j) (s + j) (i - j) j = rot f s i j := by
  funext k
  unfold rot swR
  (repeat' split) <;> first | rfl | (exfalso; omega) | (congr 1; omega)
theorem rot_lt {f : Nat → X} {s i j : Nat} (h : i < j) : rot (swR f s (s + j) i) s i (j - i) = rot f s i j := by
  funext k
  unfold rot swR
  (repeat' split) <;> first | rfl | (exfalso; omega) | (congr 1; omega)
theorem rot_Rl {f : Nat → X} {s i j : Nat} : Rl s (s + i + j) f (rot f s i j) := by
  refine ⟨fun k hk => ?_, fun k h1 h2 => ?_, fun k h1 h2 => ?_⟩
  · unfold rot; rw [if_neg (by omega), if_neg (by omega)]
  · unfold rot
    by_cases h : k < s + j
    · exact ⟨k + i, by omega, by omega, by rw [if_pos ⟨h1, h⟩]⟩
    · exact ⟨k - j, by omega, by omega, by rw [if_neg (by omega), if_pos (by omega)]⟩
  · unfold rot
    by_cases h : k < s + i
    · exact ⟨k + j, by omega, by omega, by rw [if_neg (by omega), if_pos (by omega)]; congr 1; omega⟩
    · exact ⟨k - i, by omega, by omega, by rw [if_pos (by omega)]; congr 1; omega⟩
/-! ### Moving one element -/
def shl (f : Nat → X) (a i : Nat) : Nat → X := fun k => if a ≤ k ∧ k + 1 < i then f (k + 1) else if a ≤ k ∧ k + 1 = i then f a else f k
theorem shl_one (f : Nat → X) (a : Nat) : shl f a (a + 1) = f := by
  funext k
  unfold shl
  (repeat' split) <;> first | rfl | (exfalso; omega) | (congr 1; omega)
theorem shl_succ {f : Nat → X} {a k : Nat} (h : a ≤ k) : sw (shl f a (k + 1)) k (k + 1) = shl f a (k + 2) := by
  funext x
  unfold sw shl
  (repeat' split) <;> first | rfl | (exfalso; omega) | (congr 1; omega)
def shr (f : Nat → X) (i m : Nat) : Nat → X := fun k => if k = i then f m else if i < k ∧ k ≤ m then f (k - 1) else f k
theorem shr_one (f : Nat → X) (m : Nat) : shr f m m = f := by
  funext k
  unfold shr
  (repeat' split) <;> first | rfl | (exfalso; omega) | (congr 1; omega)
theorem shr_pred {f : Nat → X} {k m : Nat} (h0 : 0 < k) (h : k ≤ m) : sw (shr f k m) k (k - 1) = shr f (k - 1) m := by
  funext x
  unfold sw shr
  (repeat' split) <;> first | rfl | (exfalso; omega) | (congr 1; omega)
theorem shl_Rl {f : Nat → X} {a i b : Nat} (h1 : a < i) (h2 : i ≤ b) : Rl a b f (shl f a i) := by
  refine ⟨fun k hk => ?_, fun k q1 q2 => ?_, fun k q1 q2 => ?_⟩
  · unfold shl; rw [if_neg (by omega), if_neg (by omega)]
  · unfold shl
    by_cases c1 : k + 1 < i
    · exact ⟨k + 1, by omega, by omega, by rw [if_pos ⟨q1, c1⟩]⟩
    · by_cases c2 : k + 1 = i
      · exact ⟨a, by omega, by omega, by rw [if_neg (by omega), if_pos ⟨q1, c2⟩]⟩
      · exact ⟨k, q1, q2, by rw [if_neg (by omega), if_neg (by omega)]⟩
  · unfold shl
    by_cases c1 : k = a
    · exact ⟨i - 1, by omega, by omega, by rw [if_neg (by omega), if_pos (by omega), c1]⟩
    · by_cases c2 : k < i
      · exact ⟨k - 1, by omega, by omega, by rw [if_pos (by omega)]; congr 1; omega⟩
      · exact ⟨k, q1, q2, by rw [if_neg (by omega), if_neg (by omega)]⟩
theorem shr_Rl {f : Nat → X} {i m a b : Nat} (h0 : a ≤ i) (h1 : i ≤ m) (h2 : m < b) : Rl a b f (shr f i m) := by
  refine ⟨fun k hk => ?_, fun k q1 q2 => ?_, fun k q1 q2 => ?_⟩
  · unfold shr; rw [if_neg (by omega), if_neg (by omega)]
  · unfold shr
    by_cases c1 : k = i
    · exact ⟨m, by omega, by omega, by rw [if_pos c1]⟩
    · by_cases c2 : i < k ∧ k ≤ m
      · exact ⟨k - 1, by omega, by omega, by rw [if_neg c1, if_pos c2]⟩
      · exact ⟨k, q1, q2, by rw [if_neg c1, if_neg c2]⟩
  · unfold shr
    by_cases c1 : k = m
    · exact ⟨i, by omega, by omega, by rw [if_pos rfl, c1]⟩
    · by_cases c2 : i ≤ k ∧ k < m
      · exact ⟨k + 1, by omega, by omega, by rw [if_neg (by omega), if_pos (by omega)]; congr 1⟩
      · exact ⟨k, q1, q2, by rw [if_neg (by omega), if_neg (by omega)]⟩
end
/-! ### Order -/
/-- An order, who comes before whom from the beginning, and the test that is made. -/
structure Od {X : Type} (lt bf : X → X → Prop) (ls : X → X → Bool) : Prop where
  tr : ∀ {x y z}, lt x y → lt y z → lt x z
  yes : ∀ {x y}, bf x y → ls y x = true → lt y x
  no : ∀ {x y}, bf x y → ls y x = false → lt x y
section
variable {X : Type} {lt bf : X → X → Prop} {ls : X → X → Bool} {f g : Nat → X} {a m b : Nat}
def Srt (lt : X → X → Prop) (a b : Nat) (f : Nat → X) : Prop := ∀ i j, a ≤ i → i < j → j < b → lt (f i) (f j)
/-- Two sorted blocks, the first of which came first. -/
structure Mg (lt bf : X → X → Prop) (a m b : Nat) (f : Nat → X) : Prop where
  l : Srt lt a m f
  r : Srt lt m b f
  x : ∀ i j, a ≤ i → i < m → m ≤ j → j < b → bf (f i) (f j)
theorem mg_left (O : Od lt bf ls) (h : Mg lt bf a (a + 1) b f) {i : Nat} (h1 : a + 1 ≤ i) (h2 : i ≤ b) (hl' : a + 1 < i → lt (f (i - 1)) (f a)) (hr' : i < b → lt (f a) (f i)) : Srt lt a b (shl f a i) := by
  intro p q hp hpq hq
  have hl : ∀ q, a + 1 ≤ q → q < i → lt (f q) (f a) := fun q q1 q2 => by
    by_cases e : q = i - 1
    · rw [e]; exact hl' (by omega)
    · exact O.tr (h.r q (i - 1) q1 (by omega) (by omega)) (hl' (by omega))
  have hr : ∀ q, i ≤ q → q < b → lt (f a) (f q) := fun q q1 q2 => by
    by_cases e : q = i
    · rw [e]; exact hr' (by omega)
    · exact O.tr (hr' (by omega)) (h.r i q (by omega) (by omega) q2)
  unfold shl
  by_cases c1 : p + 1 < i
  · rw [if_pos ⟨hp, c1⟩]
    by_cases c2 : q + 1 < i
    · rw [if_pos ⟨by omega, c2⟩]; exact h.r _ _ (by omega) (by omega) (by omega)
    · by_cases c3 : q + 1 = i
      · rw [if_neg (by omega), if_pos ⟨by omega, c3⟩]; exact hl _ (by omega) (by omega)
      · rw [if_neg (by omega), if_neg (by omega)]; exact h.r _ _ (by omega) (by omega) (by omega)
  · rw [if_neg (by omega)]
    by_cases c2 : p + 1 = i
    · rw [if_pos ⟨hp, c2⟩, if_neg (by omega), if_neg (by omega)]
      exact hr _ (by omega) (by omega)
    · rw [if_neg (by omega), if_neg (by omega), if_neg (by omega)]; exact h.r _ _ (by omega) (by omega) (by omega)
theorem mg_right (O : Od lt bf ls) (h : Mg lt bf a m (m + 1) f) {i : Nat} (h1 : a ≤ i) (h2 : i ≤ m) (hl' : a < i → lt (f (i - 1)) (f m)) (hr' : i < m → lt (f m) (f i)) : Srt lt a (m + 1) (shr f i m) := by
  intro p q hp hpq hq
  have hl : ∀ q, a ≤ q → q < i → lt (f q) (f m) := fun q q1 q2 => by
    by_cases e : q = i - 1
    · rw [e]; exact hl' (by omega)
    · exact O.tr (h.l q (i - 1) q1 (by omega) (by omega)) (hl' (by omega))
  have hr : ∀ q, i ≤ q → q < m → lt (f m) (f q) := fun q q1 q2 => by
    by_cases e : q = i
    · rw [e]; exact hr' (by omega)
    · exact O.tr (hr' (by omega)) (h.l i q (by omega) (by omega) q2)
  unfold shr
  by_cases c1 : p = i
  · rw [if_pos c1, if_neg (by omega), if_pos (by omega)]
    exact hr _ (by omega) (by omega)
  · rw [if_neg c1]
    by_cases c2 : i < p
    · rw [if_pos (by omega), if_neg (by omega), if_pos (by omega)]; exact h.l _ _ (by omega) (by omega) (by omega)
    · rw [if_neg (by omega)]
      by_cases c3 : q = i
      · rw [if_pos c3]; exact hl _ (by omega) (by omega)
      · rw [if_neg c3]
        by_cases c4 : i < q
        · rw [if_pos (by omega)]; exact h.l _ _ (by omega) (by omega) (by omega)
        · rw [if_neg (by omega)]; exact h.l _ _ (by omega) (by omega) (by omega)
/-- The cut of the symmetric search. -/
structure Cutp (lt : X → X → Prop) (a m b n s : Nat) (f : Nat → X) : Prop where
  sa : a ≤ s
  sm : s ≤ m
  em : m ≤ n - s
  eb : n - s ≤ b
  sn : s ≤ n
  lo : a < s → n - s < b → lt (f (s - 1)) (f (n - s))
  hi : s < m → m < n - s → lt (f (n - s - 1)) (f s)
theorem cut_left (O : Od lt bf ls) (h : Mg lt bf a m b f) {mid n s : Nat} (hn : n = mid + m) (C : Cutp lt a m b n s f) (g : Nat → X) (hg : g = rot f s (m - s) (n - s - m)) :
    Mg lt bf a s mid g ∧ Mg lt bf mid (n - s) b g ∧ ∀ i j, a ≤ i → i < mid → mid ≤ j → j < b → lt (g i) (g j) := by
  have hsa := C.sa
  have hsm := C.sm
  have hem := C.em
  have heb := C.eb
  have hsn := C.sn
  have e1 : ∀ k, k < s → g k = f k := fun k hk => by rw [hg]; unfold rot; rw [if_neg (by omega), if_neg (by omega)]
  have e2 : ∀ k, s ≤ k → k < mid → g k = f (k + (m - s)) := fun k h1 h2 => by rw [hg]; unfold rot; rw [if_pos (by omega)]
  have e3 : ∀ k, mid ≤ k → k < n - s → g k = f (k - (n - s - m)) := fun k h1 h2 => by rw [hg]; unfold rot; rw [if_neg (by omega), if_pos (by omega)]
  have e4 : ∀ k, n - s ≤ k → g k = f k := fun k hk => by rw [hg]; unfold rot; rw [if_neg (by omega), if_neg (by omega)]
  refine ⟨⟨fun i j h1 h2 h3 => ?_, fun i j h1 h2 h3 => ?_, fun i j h1 h2 h3 h4 => ?_⟩, ⟨fun i j h1 h2 h3 => ?_, fun i j h1 h2 h3 => ?_, fun i j h1 h2 h3 h4 => ?_⟩, fun i j h1 h2 h3 h4 => ?_⟩
  · rw [e1 i (by omega), e1 j (by omega)]; exact h.l _ _ h1 h2 (by omega)
  · rw [e2 i h1 (by omega), e2 j (by omega) h3]; exact h.r _ _ (by omega) (by omega) (by omega)
  · rw [e1 i h2, e2 j h3 h4]; exact h.x _ _ h1 (by omega) (by omega) (by omega)
  · rw [e3 i h1 (by omega), e3 j (by omega) h3]; exact h.l _ _ (by omega) (by omega) (by omega)
  · rw [e4 i h1, e4 j (by omega)]; exact h.r _ _ (by omega) h2 h3
  · rw [e3 i h1 h2, e4 j h3]; exact h.x _ _ (by omega) (by omega) (by omega) h4
  · by_cases c1 : i < s
    · rw [e1 i c1]
      by_cases c2 : j < n - s
      · rw [e3 j h3 c2]; exact h.l _ _ h1 (by omega) (by omega)
      · rw [e4 j (by omega)]
        have hc := C.lo (by omega) (by omega)
        have p1 : lt (f i) (f (n - s)) := by
          by_cases c : i = s - 1
          · rw [c]; exact hc
          · exact O.tr (h.l i (s - 1) h1 (by omega) (by omega)) hc
        by_cases c : j = n - s
        · rw [c]; exact p1
        · exact O.tr p1 (h.r _ _ (by omega) (by omega) h4)
    · rw [e2 i (by omega) h2]
      by_cases c2 : j < n - s
      · rw [e3 j h3 c2]
        have hc := C.hi (by omega) (by omega)
        have p1 : lt (f (i + (m - s))) (f s) := by
          by_cases c : i + (m - s) = n - s - 1
          · rw [c]; exact hc
          · exact O.tr (h.r _ (n - s - 1) (by omega) (by omega) (by omega)) hc
        by_cases c : j - (n - s - m) = s
        · rw [c]; exact p1
        · exact O.tr p1 (h.l _ _ (by omega) (by omega) (by omega))
      · rw [e4 j (by omega)]; exact h.r _ _ (by omega) (by omega) h4
/-- Two sorted halves, the first ahead of the second. -/
theorem halves (hl : Srt lt a m f) (hr : Srt lt m b f) (hx : ∀ i j, a ≤ i → i < m → m ≤ j → j < b → lt (f i) (f j)) : Srt lt a b f := by
  intro i j h1 h2 h3
  by_cases c1 : j < m
  · exact hl i j h1 h2 c1
  · by_cases c2 : m ≤ i
    · exact hr i j c2 h2 h3
    · exact hx i j h1 (by omega) (by omega) h3
/-- The symmetric search on its way. -/
structure Sr (lt : X → X → Prop) (p s0 r0 s r : Nat) (f : Nat → X) : Prop where
  a1 : s0 ≤ s
  a2 : s ≤ r
  a3 : r ≤ r0
  lo : s0 < s → lt (f (s - 1)) (f (p + 1 - s))
  hi : r < r0 → lt (f (p - r)) (f r)
theorem Sr.cutA {p n mid s : Nat} (h : Sr lt p (n - b) mid s s f) (hn : n = mid + m) (hp : n = p + 1) (h1 : mid < m) (h2 : a ≤ n - b) (h3 : b ≤ n) : Cutp lt a m b n s f := by
  have a1 := h.a1
  have a3 := h.a3
  refine ⟨by omega, by omega, by omega, by omega, by omega, fun q1 q2 => ?_, fun q1 q2 => ?_⟩
  · have := h.lo (by omega)
    rwa [show p + 1 - s = n - s by omega] at this
  · have := h.hi (by omega)
    rwa [show p - s = n - s - 1 by omega] at this
theorem Sr.cutB {p n mid s : Nat} (h : Sr lt p a m s s f) (hn : n = mid + m) (hp : n = p + 1) (h1 : m ≤ mid) (h2 : n ≤ b + a) : Cutp lt a m b n s f := by
  have a1 := h.a1
  have a3 := h.a3
  refine ⟨by omega, by omega, by omega, by omega, by omega, fun q1 q2 => ?_, fun q1 q2 => ?_⟩
  · have := h.lo (by omega)
    rwa [show p + 1 - s = n - s by omega] at this
  · have := h.hi (by omega)
    rwa [show p - s = n - s - 1 by omega] at this
/-- Two rows strictly sorted with the same elements are the same. -/
theorem sorted_eq {n : Nat} {f g : Nat → X} (irr : ∀ x, ¬ lt x x) (tr : ∀ {x y z}, lt x y → lt y z → lt x z) (hf : Srt lt 0 n f) (hg : Srt lt 0 n g) (h1 : ∀ k, k < n → ∃ q, q < n ∧ f k = g q) (h2 : ∀ k, k < n → ∃ q, q < n ∧ g k = f q) : ∀ k, k < n → f k = g k := by
  intro k
  induction k using Nat.strongRecOn with
  | ind k ih =>
    intro hk
    obtain ⟨q, q1, q2⟩ := h1 k hk
    obtain ⟨r, r1, r2⟩ := h2 k hk
    have hq : k ≤ q := by
      apply Classical.byContradiction
      intro hn
      have e := ih q (by omega) q1
      have := hf q k (Nat.zero_le _) (by omega) hk
      rw [e, ← q2] at this
      exact irr _ this
    have hr : k ≤ r := by
      apply Classical.byContradiction
      intro hn
      have e := ih r (by omega) r1
      have := hg r k (Nat.zero_le _) (by omega) hk
      rw [← e, ← r2] at this
      exact irr _ this
    by_cases e1 : q = k
    · rw [q2, e1]
    · by_cases e2 : r = k
      · rw [r2, e2]
      · have p1 := hg k q (Nat.zero_le _) (by omega) q1
        have p2 := hf k r (Nat.zero_le _) (by omega) r1
        rw [← q2] at p1
        rw [← r2] at p2
        exact absurd (tr p1 p2) (irr _)
end
end Go.Proofs.Ytjjglonmaajjoaa.AX
