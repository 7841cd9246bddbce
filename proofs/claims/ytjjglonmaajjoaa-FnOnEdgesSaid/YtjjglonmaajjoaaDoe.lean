/- Who is on the edges, plain: one at a time, and on one edge only. No condition beyond each law's own; nothing of the program. -/
import Derived.Test.YtjjglonmaajjoaaPde
namespace Go.Proofs.Ytjjglonmaajjoaa.AX
open Go
set_option maxRecDepth 10000
set_option linter.unusedSimpArgs false
set_option linter.unusedVariables false
section
variable {es : List Ed} {l : List Tp} {la : List Int} {m : Int}
theorem fre_up (e : Int) : ∀ (rs : List Rn) (a : Int), a ≤ rs.foldl (fre1 es l e) a
  | [], a => Int.le_refl _
  | r :: rs, a => by
    rw [List.foldl_cons]
    have := fre_up e rs (fre1 es l e a r)
    have h : a ≤ fre1 es l e a r := by rw [fre1]; split <;> omega
    omega
theorem fre_mem {r : Rn} : ∀ {rs : List Rn} (a : Int), r ∈ rs → r.2.2.2 ≤ rs.foldl (fre1 es l (rnE es l r)) a
  | [], a, h => by cases h
  | q :: rs, a, h => by
    rw [List.foldl_cons]
    rcases List.mem_cons.1 h with h | h
    · subst h
      have := fre_up (es := es) (l := l) (rnE es l r) rs (fre1 es l (rnE es l r) a r)
      have h : r.2.2.2 ≤ fre1 es l (rnE es l r) a r := by
        rw [fre1]
        by_cases c : a < r.2.2.2
        · rw [if_pos ⟨rfl, c⟩]; omega
        · rw [if_neg (fun h => c h.2)]; omega
      omega
    · exact fre_mem _ h
def apt (es : List Ed) (l : List Tp) (r q : Rn) : Prop := (rnE es l r = rnE es l q ∨ r.1 = q.1) → r.2.2.2 ≤ q.2.2.1
theorem pday_apt (d : Dy es l la) : (pday es l la).Pairwise (apt es l) := by
  obtain ⟨S, g, ⟨h1, _⟩, _, e⟩ := pday_end d (fun S => S.1.Pairwise (apt es l) ∧ ∀ r, r ∈ S.1 → ∀ i, i < l.length → r.1 = (i : Int) → r.2.2.2 ≤ rdy l la S.1 i (gn S.2 i)) ⟨.nil, fun r hr => by cases hr⟩ (fun S p g hI hp => by
    obtain ⟨I1, I2⟩ := hI
    obtain ⟨hpl, hf, _⟩ := pkT_some hp
    have gl := g.gl
    have hk := g.gk p hpl
    have hk1 : gn S.2 p + 1 < (tp l p).2.length := by
      have : ¬ gn S.2 p + 1 = (tp l p).2.length := by simpa [fin] using hf
      omega
    have h3 := d.d3 p (gn S.2 p) hpl hk1
    have nS : ∀ q, gn (nxtS l S p (cnd es l la S p)).2 q = if q = p then gn S.2 p + 1 else gn S.2 q := fun q => gn_set (by omega) _ q
    have hcr : rdy l la S.1 p (gn S.2 p) ≤ cnd es l la S p := by rw [cnd]; omega
    have hcf : fre es l S.1 (lgE es l p (gn S.2 p)) ≤ cnd es l la S p := by rw [cnd]; omega
    have hnew : ∀ r, r ∈ (nxtS l S p (cnd es l la S p)).1 → r ∈ S.1 ∨ r = ((p : Int), (gn S.2 p : Int), cnd es l la S p, cnd es l la S p + av l p (gn S.2 p + 1) - dp l p (gn S.2 p)) := fun r hr => by simpa [nxtS] using hr
    refine ⟨?_, fun r hr i hi hri => ?_⟩
    · show (S.1 ++ [_]).Pairwise (apt es l)
      rw [List.pairwise_append]
      refine ⟨I1, List.pairwise_singleton _ _, fun r hr q hq => ?_⟩
      simp only [List.mem_singleton] at hq
      subst hq
      rintro (h | h)
      · have hm := fre_mem (es := es) (l := l) (r := r) 0 hr
        rw [h] at hm
        have hE : rnE es l ((p : Int), (gn S.2 p : Int), cnd es l la S p, cnd es l la S p + av l p (gn S.2 p + 1) - dp l p (gn S.2 p)) = lgE es l p (gn S.2 p) := by simp [rnE]
        rw [hE] at hm
        have : fre es l S.1 (lgE es l p (gn S.2 p)) = S.1.foldl (fre1 es l (lgE es l p (gn S.2 p))) 0 := rfl
        show r.2.2.2 ≤ cnd es l la S p
        omega
      · have := I2 r hr p hpl h
        show r.2.2.2 ≤ cnd es l la S p
        omega
    · rw [nS]
      by_cases e : i = p
      · subst e
        rw [if_pos rfl]
        have hr' : rdy l la (nxtS l S i (cnd es l la S i)).1 i (gn S.2 i + 1) = max (dp l i (gn S.2 i + 1)) (cnd es l la S i + av l i (gn S.2 i + 1) - dp l i (gn S.2 i)) := by
          rw [rdy, if_neg (by omega), Nat.add_sub_cancel]
          show (match fnd (S.1 ++ [_]) i (gn S.2 i) with | some t => max (dp l i (gn S.2 i + 1)) t | none => -1) = _
          rw [fnd_app, (g.gf i _ hi).2 (Nat.le_refl _)]
          simp [hitR]
        rw [hr']
        rcases hnew r hr with h | h
        · have := I2 r h i hi hri
          omega
        · rw [h]
          simp only []
          omega
      · rw [if_neg e]
        show r.2.2.2 ≤ rdy l la (S.1 ++ [_]) i (gn S.2 i)
        rw [g.rdyk _ hi (Nat.le_refl _)]
        rcases hnew r hr with h | h
        · exact I2 r h i hi hri
        · rw [h] at hri
          simp only [] at hri
          omega)
  rw [e]
  exact h1
def actv (m : Int) (r : Rn) : Prop := r.2.2.1 ≤ m ∧ m < r.2.2.2
theorem on_skip (e : Nat) : ∀ {rs : List Rn} (a : Int), (∀ q, q ∈ rs → rnE es l q = e → ¬ actv m q) → rs.foldl (on1 es l m e) a = a
  | [], a, _ => rfl
  | r :: rs, a, h => by
    rw [List.foldl_cons]
    have : on1 es l m e a r = a := by rw [on1, if_neg (fun hh => h r (by simp) hh.1 hh.2)]
    rw [this]
    exact on_skip e a (fun q hq => h q (by simp [hq]))
theorem onE_ex (e : Nat) (rs : List Rn) : onE es l rs m e = -1 ∨ ∃ r, r ∈ rs ∧ actv m r ∧ rnE es l r = e ∧ onE es l rs m e = r.1 := by
  have key : ∀ (rs : List Rn) (a : Int), rs.foldl (on1 es l m e) a = a ∨ ∃ r, r ∈ rs ∧ actv m r ∧ rnE es l r = e ∧ rs.foldl (on1 es l m e) a = r.1 := by
    intro rs
    induction rs with
    | nil => intro a; exact .inl rfl
    | cons r rs ih =>
      intro a
      rw [List.foldl_cons]
      by_cases c : rnE es l r = e ∧ r.2.2.1 ≤ m ∧ m < r.2.2.2
      · have h1 : on1 es l m e a r = r.1 := by rw [on1, if_pos c]
        rw [h1]
        rcases ih r.1 with h | ⟨q, h2, h3, h4, h5⟩
        · exact .inr ⟨r, by simp, c.2, c.1, h⟩
        · exact .inr ⟨q, by simp [h2], h3, h4, h5⟩
      · have h1 : on1 es l m e a r = a := by rw [on1, if_neg c]
        rw [h1]
        rcases ih a with h | ⟨q, h2, h3, h4, h5⟩
        · exact .inl h
        · exact .inr ⟨q, by simp [h2], h3, h4, h5⟩
  exact key rs (-1)
theorem apt_take {rs : List Rn} {j : Nat} (h : rs.Pairwise (apt es l)) (hj : j < rs.length) : ∀ q, q ∈ rs.take j → apt es l q (rn rs j) := by
  intro q hq
  obtain ⟨k, hk, rfl⟩ := List.mem_iff_getElem.1 hq
  rw [List.length_take] at hk
  rw [List.getElem_take, rn, getD_get _ _ hj]
  exact List.pairwise_iff_getElem.1 h k j (by omega) hj (by omega)
/-- Ahead of a run that is on its edge in a minute nobody is on that edge. -/
theorem on_before {rs : List Rn} {j : Nat} (h : rs.Pairwise (apt es l)) (hj : j < rs.length) (ha : actv m (rn rs j)) {e : Nat} (he : rnE es l (rn rs j) = e) : onE es l (rs.take j) m e = -1 :=
  on_skip e _ fun q hq hqe hqa => by
    have := apt_take h hj q hq (.inl (by rw [hqe, he]))
    have h1 := hqa.2
    have h2 := ha.1
    omega
/-- Who is on its edge is told there. -/
theorem on_told {rs : List Rn} {j : Nat} (h : rs.Pairwise (apt es l)) (hj : j < rs.length) (ha : actv m (rn rs j)) {e : Nat} (he : rnE es l (rn rs j) = e) : onE es l rs m e = (rn rs j).1 := by
  have e1 : rs = rs.take (j + 1) ++ rs.drop (j + 1) := (List.take_append_drop _ _).symm
  have e2 : onE es l rs m e = (rs.drop (j + 1)).foldl (on1 es l m e) (onE es l (rs.take (j + 1)) m e) := by
    conv => lhs; rw [e1]
    rw [onE, List.foldl_append]; rfl
  rw [e2, onE_take e hj, on_skip e _ (fun q hq hqe hqa => ?_), on1, if_pos ⟨he, ha⟩]
  obtain ⟨k, hk, rfl⟩ := List.mem_iff_getElem.1 hq
  rw [List.length_drop] at hk
  have hp := List.pairwise_iff_getElem.1 h j (j + 1 + k) hj (by omega) (by omega)
  rw [List.getElem_drop] at hqe hqa
  have e3 : rn rs j = rs[j] := by rw [rn, getD_get _ _ hj]
  rw [e3] at he ha
  have := hp (.inl (by rw [he, hqe]))
  have h1 := hqa.1
  have h2 := ha.2
  omega
/-- A trip is on one edge at most. -/
theorem on_one {rs : List Rn} (h : rs.Pairwise (apt es l)) (h0 : ∀ r, r ∈ rs → 0 ≤ r.1) {e k : Nat} (hek : k ≠ e) (he : 0 ≤ onE es l rs m e) : onE es l rs m k ≠ onE es l rs m e := by
  intro hh
  rcases onE_ex (es := es) (l := l) (m := m) e rs with c | ⟨r, r1, r2, r3, r4⟩
  · omega
  rcases onE_ex (es := es) (l := l) (m := m) k rs with c | ⟨q, q1, q2, q3, q4⟩
  · omega
  obtain ⟨i, hi, rfl⟩ := List.mem_iff_getElem.1 r1
  obtain ⟨j, hj, rfl⟩ := List.mem_iff_getElem.1 q1
  have heq : (rs[i]).1 = (rs[j]).1 := by omega
  have a1 := r2.1
  have a2 := r2.2
  have b1 := q2.1
  have b2 := q2.2
  rcases Nat.lt_trichotomy i j with c | c | c
  · have := List.pairwise_iff_getElem.1 h i j hi hj c (.inr heq)
    omega
  · subst c
    omega
  · have := List.pairwise_iff_getElem.1 h j i hj hi c (.inr heq.symm)
    omega
/-- How many of the first n are not below 0. -/
def cE (f : Nat → Int) : Nat → Nat
  | 0 => 0
  | n + 1 => cE f n + if 0 ≤ f n then 1 else 0
theorem cE_le (f : Nat → Int) : ∀ n, cE f n ≤ n
  | 0 => Nat.le_refl _
  | n + 1 => by have := cE_le f n; rw [cE]; split <;> omega
theorem cE_congr {f g : Nat → Int} : ∀ {n}, (∀ k, k < n → f k = g k) → cE f n = cE g n
  | 0, _ => rfl
  | n + 1, h => by rw [cE, cE, cE_congr (fun k hk => h k (by omega)), h n (by omega)]
theorem cE_one {f g : Nat → Int} {e : Nat} : ∀ {n}, e < n → (∀ k, k < n → k ≠ e → f k = g k) → f e < 0 → 0 ≤ g e → cE g n = cE f n + 1
  | 0, h, _, _, _ => by omega
  | n + 1, h, hc, h1, h2 => by
    rw [cE, cE]
    by_cases c : n = e
    · subst c
      rw [cE_congr (f := g) (g := f) (fun k hk => (hc k (by omega) (by omega)).symm), if_pos h2, if_neg (by omega)]
    · rw [cE_one (n := n) (by omega) (fun k hk hke => hc k (by omega) hke) h1 h2, hc n (by omega) c]
      omega
open Classical in
/-- How many runs are under way in a minute. -/
def cA (m : Int) : List Rn → Nat
  | [] => 0
  | r :: rs => (if r.2.2.1 ≤ m ∧ m < r.2.2.2 then 1 else 0) + cA m rs
theorem cA_app (rs : List Rn) (r : Rn) : cA m (rs ++ [r]) = cA m rs + if r.2.2.1 ≤ m ∧ m < r.2.2.2 then 1 else 0 := by
  induction rs with
  | nil => simp only [List.nil_append, cA]; split <;> simp
  | cons q rs ih => simp only [List.cons_append, cA, ih]; omega
theorem cA_take {rs : List Rn} {j : Nat} (hj : j < rs.length) : cA m (rs.take (j + 1)) = cA m (rs.take j) + if (rn rs j).2.2.1 ≤ m ∧ m < (rn rs j).2.2.2 then 1 else 0 := by
  rw [take_snoc rs (0, 0, 0, 0) hj, cA_app]; rfl
theorem cA_le (rs : List Rn) : cA m rs ≤ rs.length := by
  induction rs with
  | nil => exact Nat.le_refl _
  | cons r rs ih => rw [cA, List.length_cons]; split <;> omega
/-- As many are on edges as runs are under way. -/
theorem cA_cE {rs : List Rn} {E : Nat} (h : rs.Pairwise (apt es l)) (h0 : ∀ r, r ∈ rs → 0 ≤ r.1 ∧ 0 ≤ rnE es l r ∧ rnE es l r < E) : ∀ j, j ≤ rs.length → cE (onE es l (rs.take j) m) E = cA m (rs.take j) := by
  intro j
  induction j with
  | zero =>
    intro _
    have key : ∀ n, cE (onE es l ([] : List Rn) m) n = 0 := by
      intro n
      induction n with
      | zero => rfl
      | succ n ih => rw [cE, ih]; rfl
    exact key E
  | succ j ih =>
    intro hj
    have ih := ih (by omega)
    have hmem : rn rs j ∈ rs := by rw [rn, getD_get _ _ hj]; exact List.getElem_mem hj
    obtain ⟨h1, h2, h3⟩ := h0 _ hmem
    obtain ⟨e, he⟩ : ∃ e : Nat, rnE es l (rn rs j) = e := ⟨(rnE es l (rn rs j)).toNat, by omega⟩
    rw [cA_take hj]
    by_cases c : (rn rs j).2.2.1 ≤ m ∧ m < (rn rs j).2.2.2
    · rw [if_pos c, ← ih]
      refine cE_one (e := e) (by omega) (fun k hk hke => ?_) ?_ ?_
      · rw [onE_take k hj, on1, if_neg (fun hh => hke (by have := hh.1; omega))]
      · rw [on_before h hj c he]; omega
      · rw [onE_take e hj, on1, if_pos ⟨he, c⟩]; exact h1
    · rw [if_neg c, ← ih, Nat.add_zero]
      refine cE_congr fun k hk => ?_
      rw [onE_take k hj, on1, if_neg (fun hh => c hh.2)]
end
end Go.Proofs.Ytjjglonmaajjoaa.AX
