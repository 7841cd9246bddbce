/- The day, by the reference's steps and minute by minute: they agree. Plain. No condition beyond each law's own; nothing of the program. -/
import Derived.Test.YtjjglonmaajjoaaAp
namespace Go.Proofs.Ytjjglonmaajjoaa.AX
open Go
set_option maxRecDepth 10000
set_option linter.unusedSimpArgs false
set_option linter.unusedVariables false
/-! ### The day, step by step -/
theorem gD_set {α : Type} (l : List α) (d x : α) {i : Nat} (h : i < l.length) (j : Nat) : (l.set i x).getD j d = if j = i then x else l.getD j d := by
  rw [List.getD_eq_getElem?_getD, List.getElem?_set, List.getD_eq_getElem?_getD]
  by_cases e : j = i
  · subst e; rw [if_pos rfl, if_pos h, if_pos rfl]; rfl
  · rw [if_neg (fun h => e h.symm), if_neg e]
def gi (l : List Int) (i : Nat) : Int := l.getD i 0
def gn (l : List Nat) (i : Nat) : Nat := l.getD i 0
def gb (l : List Bool) (i : Nat) : Bool := l.getD i false
theorem gi_set {l : List Int} {i : Nat} (h : i < l.length) (x : Int) (j : Nat) : gi (l.set i x) j = if j = i then x else gi l j := gD_set l 0 x h j
theorem gn_set {l : List Nat} {i : Nat} (h : i < l.length) (x : Nat) (j : Nat) : gn (l.set i x) j = if j = i then x else gn l j := gD_set l 0 x h j
theorem gb_set {l : List Bool} {i : Nat} (h : i < l.length) (x : Bool) (j : Nat) : gb (l.set i x) j = if j = i then x else gb l j := gD_set l false x h j
theorem sum_set : ∀ {l : List Nat} {i : Nat}, i < l.length → (l.set i (gn l i + 1)).sum = l.sum + 1
  | x :: l, 0, _ => by simp only [gn, List.getD_cons_zero, List.set_cons_zero, List.sum_cons]; omega
  | x :: l, i + 1, h => by
    have := sum_set (l := l) (i := i) (by simpa using h)
    simp only [gn, List.getD_cons_succ, List.set_cons_succ, List.sum_cons] at this ⊢
    omega
theorem sum_le {b : Nat} : ∀ {l : List Nat}, (∀ i, i < l.length → gn l i ≤ b) → l.sum ≤ b * l.length
  | [], _ => by simp
  | x :: l, h => by
    have h1 : x ≤ b := h 0 (by simp)
    have := sum_le (b := b) (l := l) (fun i hi => by have := h (i + 1) (by simpa using hi); simpa [gn] using this)
    simp only [List.sum_cons, List.length_cons, Nat.mul_add, Nat.mul_one]
    omega
def dp (l : List Tp) (i k : Nat) : Int := (cl (tp l i).2 k).2.2
def av (l : List Tp) (i k : Nat) : Int := (cl (tp l i).2 k).2.1
def hitR (i k : Nat) (r : Rn) : Bool := decide (r.1 = (i : Int)) && decide (r.2.1 = (k : Int))
/-- When the run of a leg ended. -/
def fnd (rs : List Rn) (i k : Nat) : Option Int := (rs.find? (hitR i k)).map (·.2.2.2)
def rdy (l : List Tp) (la : List Int) (rs : List Rn) (i k : Nat) : Int := if k = 0 then dp l i 0 + gi la i else match fnd rs i (k - 1) with
  | some t => max (dp l i k) t
  | none => -1
def fre1 (es : List Ed) (l : List Tp) (e : Int) (a : Int) (r : Rn) : Int := if rnE es l r = e ∧ a < r.2.2.2 then r.2.2.2 else a
def fre (es : List Ed) (l : List Tp) (rs : List Rn) (e : Int) : Int := rs.foldl (fre1 es l e) 0
abbrev Sd := List Rn × List Nat
def cnd (es : List Ed) (l : List Tp) (la : List Int) (S : Sd) (i : Nat) : Int := max (rdy l la S.1 i (gn S.2 i)) (fre es l S.1 (lgE es l i (gn S.2 i)))
def fin (l : List Tp) (S : Sd) (i : Nat) : Bool := decide (gn S.2 i + 1 = (tp l i).2.length)
def pkT (es : List Ed) (l : List Tp) (la : List Int) (S : Sd) : Nat → Option (Nat × Int)
  | 0 => none
  | n + 1 => if fin l S n = true then pkT es l la S n else match pkT es l la S n with
    | none => some (n, cnd es l la S n)
    | some (b, w) => if cnd es l la S n < w then some (n, cnd es l la S n) else some (b, w)
def nxtS (l : List Tp) (S : Sd) (i : Nat) (w : Int) : Sd := (S.1 ++ [((i : Int), (gn S.2 i : Int), w, w + av l i (gn S.2 i + 1) - dp l i (gn S.2 i))], S.2.set i (gn S.2 i + 1))
def stp (es : List Ed) (l : List Tp) (la : List Int) (S : Sd) : Option Sd := (pkT es l la S l.length).map (fun p => nxtS l S p.1 p.2)
def pdF (es : List Ed) (l : List Tp) (la : List Int) : Nat → Sd → Sd
  | 0, S => S
  | n + 1, S => match stp es l la S with
    | none => S
    | some S' => pdF es l la n S'
def pd0 (l : List Tp) : Sd := ([], List.replicate l.length 0)
/-- The day that is played. -/
def pday (es : List Ed) (l : List Tp) (la : List Int) : List Rn := (pdF es l la 300 (pd0 l)).1
structure Dy (es : List Ed) (l : List Tp) (la : List Int) : Prop where
  d1 : ∀ i, i < l.length → 2 ≤ (tp l i).2.length ∧ (tp l i).2.length ≤ 12
  d2 : ∀ i k, i < l.length → k < (tp l i).2.length → 0 ≤ av l i k ∧ av l i k ≤ dp l i k ∧ dp l i k ≤ 100000
  d3 : ∀ i k, i < l.length → k + 1 < (tp l i).2.length → dp l i k < av l i (k + 1)
  d4 : ∀ i k, i < l.length → k + 1 < (tp l i).2.length → 0 ≤ lgE es l i k ∧ lgE es l i k < es.length
  d5 : ∀ i, i < l.length → 0 ≤ gi la i ∧ gi la i ≤ 10000
  d6 : l.length ≤ 24
  d7 : es.length ≤ 60
  d8 : la.length = l.length
structure Gd (es : List Ed) (l : List Tp) (la : List Int) (S : Sd) : Prop where
  gl : S.2.length = l.length
  gk : ∀ i, i < l.length → gn S.2 i < (tp l i).2.length
  gs : S.1.length = S.2.sum
  gt : ∀ r, r ∈ S.1 → 0 ≤ r.2.2.1 ∧ r.2.2.1 < r.2.2.2 ∧ r.2.2.2 ≤ 110000 + 100000 * (S.1.length : Int) ∧ ∃ i k : Nat, r.1 = i ∧ r.2.1 = k ∧ i < l.length ∧ k + 1 < (tp l i).2.length
  gf : ∀ i k, i < l.length → (k < gn S.2 i → ∃ t, fnd S.1 i k = some t) ∧ (gn S.2 i ≤ k → fnd S.1 i k = none)
  gr : pdF es l la (300 - S.1.length) S = pdF es l la 300 (pd0 l)
section
variable {es : List Ed} {l : List Tp} {la : List Int} {S : Sd} {i k : Nat}
theorem pkT_none (h : ∀ j, j < k → fin l S j = true) : pkT es l la S k = none := by
  induction k with
  | zero => rfl
  | succ k ih => rw [pkT, if_pos (h k (by omega)), ih (fun j hj => h j (by omega))]
theorem pkT_some {b : Nat} {w : Int} (h : pkT es l la S k = some (b, w)) : b < k ∧ fin l S b = false ∧ w = cnd es l la S b := by
  induction k generalizing b w with
  | zero => cases h
  | succ k ih =>
    rw [pkT] at h
    split at h
    · have := ih h; exact ⟨by omega, this.2⟩
    · rename_i hf
      have hf : fin l S k = false := by simpa using hf
      cases hp : pkT es l la S k with
      | none =>
        rw [hp] at h
        simp only [Option.some.injEq, Prod.mk.injEq] at h
        rw [← h.1, ← h.2]
        exact ⟨by omega, hf, rfl⟩
      | some q =>
        obtain ⟨b', w'⟩ := q
        rw [hp] at h
        simp only [] at h
        split at h
        · simp only [Option.some.injEq, Prod.mk.injEq] at h
          rw [← h.1, ← h.2]
          exact ⟨by omega, hf, rfl⟩
        · simp only [Option.some.injEq, Prod.mk.injEq] at h
          rw [← h.1, ← h.2]
          have := ih hp; exact ⟨by omega, this.2⟩
theorem pkT_fin (h : pkT es l la S k = none) : ∀ j, j < k → fin l S j = true := by
  induction k with
  | zero => intro j hj; omega
  | succ k ih =>
    rw [pkT] at h
    split at h
    · rename_i hf
      intro j hj
      by_cases e : j = k
      · rw [e]; exact hf
      · exact ih h j (by omega)
    · split at h
      · cases h
      · split at h <;> cases h
theorem pkT_pick (hi : i < k) (hf : fin l S i = false) (h1 : ∀ j, j < i → fin l S j = false → cnd es l la S i < cnd es l la S j) (h2 : ∀ j, j < k → fin l S j = false → cnd es l la S i ≤ cnd es l la S j) : pkT es l la S k = some (i, cnd es l la S i) := by
  induction k with
  | zero => omega
  | succ k ih =>
    rw [pkT]
    by_cases e : i = k
    · subst e
      rw [if_neg (by rw [hf]; simp)]
      cases hp : pkT es l la S i with
      | none => rfl
      | some q =>
        obtain ⟨b, w⟩ := q
        obtain ⟨p1, p2, p3⟩ := pkT_some hp
        subst p3
        simp only []
        rw [if_pos (h1 b p1 p2)]
    · rw [ih (by omega) (fun j hj => h2 j (by omega))]
      split
      · rfl
      · rename_i hk
        have := h2 k (by omega) (by simpa using hk)
        simp only []
        rw [if_neg (by omega)]
theorem fnd_app (rs : List Rn) (r : Rn) (i k : Nat) : fnd (rs ++ [r]) i k = match fnd rs i k with
    | some t => some t
    | none => if hitR i k r = true then some r.2.2.2 else none := by
  rw [fnd, fnd, List.find?_append]
  cases hr : rs.find? (hitR i k) with
  | some q => rfl
  | none =>
    simp only [Option.none_or, Option.map_none, List.find?_cons, List.find?_nil]
    cases hitR i k r <;> rfl
theorem fnd_mem {rs : List Rn} {t : Int} (h : fnd rs i k = some t) : ∃ r, r ∈ rs ∧ r.2.2.2 = t := by
  rw [fnd, Option.map_eq_some_iff] at h
  obtain ⟨r, h1, h2⟩ := h
  exact ⟨r, List.mem_of_find?_eq_some h1, h2⟩
theorem fnd_none {rs : List Rn} (h : ∀ q, q < rs.length → hitR i k (rn rs q) = false) : fnd rs i k = none := by
  rw [fnd, Option.map_eq_none_iff, List.find?_eq_none]
  intro r hr
  obtain ⟨q, hq, rfl⟩ := List.mem_iff_getElem.1 hr
  have := h q hq
  rw [rn, getD_get _ _ hq] at this
  simp [this]
theorem fnd_hit {rs : List Rn} {j : Nat} (hj : j < rs.length) (hh : hitR i k (rn rs j) = true) (h : ∀ q, q < j → hitR i k (rn rs q) = false) : fnd rs i k = some (rn rs j).2.2.2 := by
  rw [fnd, Option.map_eq_some_iff]
  refine ⟨rn rs j, ?_, rfl⟩
  rw [List.find?_eq_some_iff_getElem]
  refine ⟨hh, j, hj, by rw [rn, getD_get _ _ hj], fun q hq => ?_⟩
  have := h q hq
  rw [rn, getD_get _ _ (by omega)] at this
  simp [this]
theorem fre_take {rs : List Rn} {j : Nat} (e : Int) (hj : j < rs.length) : fre es l (rs.take (j + 1)) e = fre1 es l e (fre es l (rs.take j) e) (rn rs j) := by
  rw [take_snoc rs (0, 0, 0, 0) hj, fre, List.foldl_append]; rfl
theorem fre_app (rs : List Rn) (r : Rn) (e : Int) : fre es l (rs ++ [r]) e = if rnE es l r = e then max (fre es l rs e) r.2.2.2 else fre es l rs e := by
  rw [fre, List.foldl_append, ← fre, List.foldl_cons, List.foldl_nil, fre1]
  by_cases c : rnE es l r = e
  · rw [if_pos c]
    by_cases c2 : fre es l rs e < r.2.2.2
    · rw [if_pos ⟨c, c2⟩]; omega
    · rw [if_neg (fun h => c2 h.2)]; omega
  · rw [if_neg c, if_neg (fun h => c h.1)]
theorem fre_bd {rs : List Rn} {B : Int} (hB : 0 ≤ B) (h : ∀ r, r ∈ rs → r.2.2.2 ≤ B) (e : Int) : 0 ≤ fre es l rs e ∧ fre es l rs e ≤ B := by
  have key : ∀ (rs : List Rn) (a : Int), 0 ≤ a → a ≤ B → (∀ r, r ∈ rs → r.2.2.2 ≤ B) → 0 ≤ rs.foldl (fre1 es l e) a ∧ rs.foldl (fre1 es l e) a ≤ B := by
    intro rs
    induction rs with
    | nil => intro a h0 h1 _; exact ⟨h0, h1⟩
    | cons r rs ih =>
      intro a h0 h1 h
      rw [List.foldl_cons]
      have hr := h r (by simp)
      refine ih _ ?_ ?_ (fun q hq => h q (by simp [hq]))
      · rw [fre1]; split <;> omega
      · rw [fre1]; split <;> omega
  exact key rs 0 (by omega) hB h
theorem rdy_bd (d : Dy es l la) (g : Gd es l la S) (hi : i < l.length) : 0 ≤ rdy l la S.1 i (gn S.2 i) ∧ rdy l la S.1 i (gn S.2 i) ≤ 110000 + 100000 * (S.1.length : Int) := by
  have hk := g.gk i hi
  have h5 := d.d5 i hi
  have h2 := d.d2 i (gn S.2 i) hi hk
  rw [rdy]
  split
  · rename_i e
    rw [e] at h2
    omega
  · rename_i e
    obtain ⟨t, ht⟩ := (g.gf i (gn S.2 i - 1) hi).1 (by omega)
    obtain ⟨r, hr, hrt⟩ := fnd_mem ht
    have := g.gt r hr
    rw [ht]
    simp only []
    omega
theorem cnd_bd (d : Dy es l la) (g : Gd es l la S) (hi : i < l.length) : 0 ≤ cnd es l la S i ∧ cnd es l la S i ≤ 110000 + 100000 * (S.1.length : Int) := by
  have h1 := rdy_bd d g hi
  have h2 := fre_bd (es := es) (l := l) (rs := S.1) (B := 110000 + 100000 * (S.1.length : Int)) (by omega) (fun r hr => (g.gt r hr).2.2.1) (lgE es l i (gn S.2 i))
  rw [cnd]
  omega
theorem gd_len (d : Dy es l la) (g : Gd es l la S) : S.1.length ≤ 264 := by
  have h := sum_le (b := 11) (l := S.2) (fun i hi => by have := g.gk i (by rw [← g.gl]; exact hi); have := (d.d1 i (by rw [← g.gl]; exact hi)).2; omega)
  have h1 := g.gs
  have h2 := g.gl
  have h3 := d.d6
  rw [h2] at h
  have : 11 * l.length ≤ 264 := by omega
  omega
theorem gd0 (d : Dy es l la) : Gd es l la (pd0 l) := by
  have hz : ∀ i, gn (List.replicate l.length 0) i = 0 := fun i => by
    rw [gn, List.getD_eq_getElem?_getD, List.getElem?_replicate]
    split <;> rfl
  refine ⟨by simp [pd0], fun i hi => ?_, by simp [pd0], fun r hr => (by cases hr), fun i k hi => ⟨fun h => ?_, fun _ => rfl⟩, rfl⟩
  · have := (d.d1 i hi).1
    rw [pd0, hz]; omega
  · rw [pd0, hz] at h; omega
theorem gd_next (d : Dy es l la) (g : Gd es l la S) (hp : pkT es l la S l.length = some (i, cnd es l la S i)) : Gd es l la (nxtS l S i (cnd es l la S i)) := by
  obtain ⟨hi, hf, _⟩ := pkT_some hp
  have hk := g.gk i hi
  have hk1 : gn S.2 i + 1 < (tp l i).2.length := by
    have : ¬ gn S.2 i + 1 = (tp l i).2.length := by simpa [fin] using hf
    omega
  have hb := cnd_bd d g hi
  have hl := gd_len d g
  have h2 := d.d2 i (gn S.2 i) hi hk
  have h2' := d.d2 i (gn S.2 i + 1) hi hk1
  have h3 := d.d3 i (gn S.2 i) hi hk1
  have gl := g.gl
  have hs : ∀ j, gn (S.2.set i (gn S.2 i + 1)) j = if j = i then gn S.2 i + 1 else gn S.2 j := fun j => gn_set (by omega) _ j
  refine ⟨by rw [nxtS, List.length_set]; exact gl, fun j hj => ?_, ?_, fun r hr => ?_, fun j k hj => ?_, ?_⟩
  · show gn (S.2.set i (gn S.2 i + 1)) j < _
    rw [hs]
    split
    · rename_i e; rw [e]; exact hk1
    · exact g.gk j hj
  · show (S.1 ++ [_]).length = (S.2.set i (gn S.2 i + 1)).sum
    rw [List.length_append, sum_set (by omega), g.gs]; rfl
  · have hlen : ((nxtS l S i (cnd es l la S i)).1.length : Int) = S.1.length + 1 := by
      simp only [nxtS, List.length_append, List.length_cons, List.length_nil]; omega
    rw [hlen]
    have hr : r ∈ S.1 ∨ r = ((i : Int), (gn S.2 i : Int), cnd es l la S i, cnd es l la S i + av l i (gn S.2 i + 1) - dp l i (gn S.2 i)) := by
      simpa [nxtS] using hr
    rcases hr with hr | rfl
    · have := g.gt r hr
      exact ⟨this.1, this.2.1, by omega, this.2.2.2⟩
    · simp only []
      exact ⟨by omega, by omega, by omega, i, gn S.2 i, rfl, rfl, hi, hk1⟩
  · show (k < gn (S.2.set i (gn S.2 i + 1)) j → ∃ t, fnd (S.1 ++ [_]) j k = some t) ∧ (gn (S.2.set i (gn S.2 i + 1)) j ≤ k → fnd (S.1 ++ [_]) j k = none)
    obtain ⟨f1, f2⟩ := g.gf j k hj
    rw [hs, fnd_app]
    by_cases e : j = i
    · subst e
      rw [if_pos rfl]
      refine ⟨fun h => ?_, fun h => ?_⟩
      · by_cases c : k < gn S.2 j
        · obtain ⟨t, ht⟩ := f1 c
          rw [ht]; exact ⟨t, rfl⟩
        · have : k = gn S.2 j := by omega
          subst this
          rw [f2 (Nat.le_refl _)]
          simp [hitR]
      · rw [f2 (by omega)]
        have : ¬ gn S.2 j = k := by omega
        simp [hitR]; omega
    · rw [if_neg e]
      have hn : hitR j k ((i : Int), (gn S.2 i : Int), cnd es l la S i, cnd es l la S i + av l i (gn S.2 i + 1) - dp l i (gn S.2 i)) = false := by
        simp [hitR]; omega
      rw [hn]
      refine ⟨fun h => ?_, fun h => ?_⟩
      · obtain ⟨t, ht⟩ := f1 h
        rw [ht]; exact ⟨t, rfl⟩
      · rw [f2 h]; rfl
  · have e1 : stp es l la S = some (nxtS l S i (cnd es l la S i)) := by rw [stp, hp]; rfl
    have e2 : (nxtS l S i (cnd es l la S i)).1.length = S.1.length + 1 := by simp [nxtS]
    have e3 : 300 - S.1.length = (300 - (S.1.length + 1)) + 1 := by omega
    rw [e2, ← g.gr, e3, pdF, e1]
theorem gd_last (g : Gd es l la S) (h : ∀ j, j < l.length → fin l S j = true) : pday es l la = S.1 := by
  have e : stp es l la S = none := by rw [stp, pkT_none h]; rfl
  rw [pday, ← g.gr]
  cases 300 - S.1.length with
  | zero => rfl
  | succ n => rw [pdF, e]
end
theorem dy_of {n : Int} {es : List Ed} {l : List Tp} {la : List Int} (h : dayOk n es l la = true) : Dy es l la ∧ ridden n es l = true := by
  simp only [dayOk, Bool.and_eq_true, decide_eq_true_eq, allTo_iff] at h
  obtain ⟨h1, h2, h3⟩ := h
  obtain ⟨_, h24, htp, hrd⟩ := ridden_get h1
  have h60 : es.length ≤ 60 := by
    simp only [ridden, Bool.and_eq_true] at h1
    exact (netOk_get h1.1).2.2.1
  have hcl : ∀ i k, i < l.length → k < (tp l i).2.length → clOk (tp l i).2 k = true := fun i k hi hk => (tpOk_get (htp i hi)).2.2 k hk
  refine ⟨⟨fun i hi => ?_, fun i k hi hk => ?_, fun i k hi hk => ?_, fun i k hi hk => ?_, fun i hi => ?_, h24, h60, h2⟩, h1⟩
  · have := tpOk_get (htp i hi); exact ⟨this.1, this.2.1⟩
  · have := clOk_get (hcl i k hi hk); exact ⟨this.2.1.1, this.2.1.2, this.2.2.1⟩
  · have := (clOk_get (hcl i (k + 1) hi hk)).2.2.2 (by omega)
    exact this.1
  · exact ⟨hrd i k hi (by omega), (jn_range _ _ _).2⟩
  · exact inR_iff.1 (h3 i (by omega))
/-! ### The same day, minute by minute -/
structure Ps where
  pa : List Nat
  pr : List Int
  pe : List Int
  pt : List Bool
  ps : List Rn
  pw : Int
def legE (es : List Ed) (l : List Tp) (P : Ps) (i : Nat) : Int := lgE es l i (gn P.pa i)
def arr1 (es : List Ed) (l : List Tp) (m : Int) (P : Ps) (i : Nat) : Ps := if gi P.pe i = m then { P with pt := P.pt.set (legE es l P i).toNat false, pe := P.pe.set i (-1), pa := P.pa.set i (gn P.pa i + 1), pr := P.pr.set i (max (dp l i (gn P.pa i + 1)) m) } else P
def arrT (es : List Ed) (l : List Tp) (m : Int) (P : Ps) : Nat → Ps
  | 0 => P
  | n + 1 => arr1 es l m (arrT es l m P n) n
def stay (es : List Ed) (l : List Tp) (m : Int) (P : Ps) (i : Nat) : Bool := decide (gn P.pa i + 1 = (tp l i).2.length) || (decide (0 ≤ gi P.pe i) || (decide (m < gi P.pr i) || gb P.pt (legE es l P i).toNat))
def endT (l : List Tp) (m : Int) (P : Ps) (i : Nat) : Int := m + av l i (gn P.pa i + 1) - dp l i (gn P.pa i)
def go1 (es : List Ed) (l : List Tp) (m : Int) (P : Ps) (i : Nat) : Ps := { P with pt := P.pt.set (legE es l P i).toNat true, pe := P.pe.set i (endT l m P i), ps := P.ps ++ [((i : Int), (gn P.pa i : Int), m, endT l m P i)], pw := P.pw + (m - gi P.pr i) }
def lv1 (es : List Ed) (l : List Tp) (m : Int) (P : Ps) (i : Nat) : Ps := if stay es l m P i = true then P else go1 es l m P i
def lvT (es : List Ed) (l : List Tp) (m : Int) (P : Ps) : Nat → Ps
  | 0 => P
  | n + 1 => lv1 es l m (lvT es l m P n) n
def thn (l : List Tp) (m : Int) (P : Ps) (i : Nat) : Int := if gi P.pe i < 0 ∧ ¬ gn P.pa i + 1 = (tp l i).2.length ∧ m < gi P.pr i then gi P.pr i else gi P.pe i
def nxT (l : List Tp) (m : Int) (P : Ps) : Nat → Int
  | 0 => -1
  | n + 1 => if m < thn l m P n ∧ (nxT l m P n < 0 ∨ thn l m P n < nxT l m P n) then thn l m P n else nxT l m P n
def wsum (l : List Tp) (la : List Int) (rs0 : List Rn) : List Rn → Int
  | [] => 0
  | r :: rs => r.2.2.1 - rdy l la rs0 r.1.toNat r.2.1.toNat + wsum l la rs0 rs
/-- The program's state against the reference's; who is under way ends at lo or behind it. -/
structure JU (es : List Ed) (l : List Tp) (la : List Int) (lo : Nat → Int) (m : Int) (P : Ps) (S : Sd) : Prop where
  ja : P.pa.length = l.length
  jr : P.pr.length = l.length
  je : P.pe.length = l.length
  jt : P.pt.length = es.length
  js : P.ps = S.1
  jg : Gd es l la S
  jw : P.pw = wsum l la S.1 S.1
  ju : ∀ i, i < l.length → (gi P.pe i = -1 ∧ gn P.pa i = gn S.2 i ∧ gi P.pr i = rdy l la S.1 i (gn S.2 i)) ∨ (0 ≤ gi P.pe i ∧ lo i ≤ gi P.pe i ∧ gn P.pa i + 1 = gn S.2 i ∧ rdy l la S.1 i (gn S.2 i) = max (dp l i (gn S.2 i)) (gi P.pe i) ∧ fre es l S.1 (legE es l P i) = gi P.pe i)
  jk : ∀ e, e < es.length → gb P.pt e = true → ∃ i, i < l.length ∧ 0 ≤ gi P.pe i ∧ legE es l P i = e
  jf : ∀ e : Nat, e < es.length → gb P.pt e = false → fre es l S.1 e ≤ max m 0
section
variable {es : List Ed} {l : List Tp} {la : List Int} {S : Sd} {P : Ps} {lo lo' : Nat → Int} {m m' : Int} {i k n : Nat}
theorem nxT_cases (hm : -1 ≤ m) (n : Nat) : (nxT l m P n = -1 ∧ ∀ j, j < n → thn l m P j ≤ m) ∨ (m < nxT l m P n ∧ (∃ i, i < n ∧ thn l m P i = nxT l m P n) ∧ ∀ j, j < n → m < thn l m P j → nxT l m P n ≤ thn l m P j) := by
  induction n with
  | zero => exact .inl ⟨rfl, fun j hj => by omega⟩
  | succ n ih =>
    have up : ∀ {p : Nat → Prop}, (∀ j, j < n → p j) → p n → ∀ j, j < n + 1 → p j := fun h h' j hj => by
      by_cases e : j = n
      · rw [e]; exact h'
      · exact h j (by omega)
    rw [nxT]
    rcases ih with ⟨h1, h2⟩ | ⟨h1, ⟨i, h2, h3⟩, h4⟩
    · rw [h1]
      by_cases c : m < thn l m P n
      · rw [if_pos ⟨c, .inl (by omega)⟩]
        exact .inr ⟨c, ⟨n, by omega, rfl⟩, up (fun j hj hm => by have := h2 j hj; omega) (fun _ => Int.le_refl _)⟩
      · rw [if_neg (fun h => c h.1)]
        exact .inl ⟨rfl, up h2 (by omega)⟩
    · by_cases c : m < thn l m P n ∧ (nxT l m P n < 0 ∨ thn l m P n < nxT l m P n)
      · rw [if_pos c]
        exact .inr ⟨c.1, ⟨n, by omega, rfl⟩, up (fun j hj hm => by have := h4 j hj hm; omega) (fun _ => Int.le_refl _)⟩
      · rw [if_neg c]
        exact .inr ⟨h1, ⟨i, by omega, h3⟩, up h4 (fun hm => by omega)⟩
theorem JU.leg (d : Dy es l la) (j : JU es l la lo m P S) (hi : i < l.length) (hu : 0 ≤ gi P.pe i ∨ fin l S i = false) : gn P.pa i + 1 < (tp l i).2.length := by
  have hk := j.jg.gk i hi
  rcases j.ju i hi with ⟨h1, h2, _⟩ | ⟨_, _, h2, _⟩
  · have : fin l S i = false := by
      rcases hu with h | h
      · omega
      · exact h
    have : ¬ gn S.2 i + 1 = (tp l i).2.length := by simpa [fin] using this
    omega
  · omega
/-- Everything that can still leave leaves at an event. -/
theorem JU.event (d : Dy es l la) (j : JU es l la (fun _ => m + 1) m P S) (hm : -1 ≤ m) (hi : i < l.length) (hf : fin l S i = false) (hc : m < cnd es l la S i) : ∃ k, k < l.length ∧ m < thn l m P k ∧ thn l m P k ≤ cnd es l la S i := by
  have hk := j.jg.gk i hi
  have hfi : ¬ gn S.2 i + 1 = (tp l i).2.length := by simpa [fin] using hf
  have hrb := (rdy_bd d j.jg hi).1
  have und : ∀ k, k < l.length → 0 ≤ gi P.pe k → m < thn l m P k ∧ thn l m P k = gi P.pe k := fun k hk h => by
    rw [thn, if_neg (fun h' => by omega)]
    rcases j.ju k hk with h' | h'
    · omega
    · exact ⟨by omega, rfl⟩
  rcases Int.lt_or_le m (rdy l la S.1 i (gn S.2 i)) with c | c
  · rcases j.ju i hi with ⟨h1, h2, h3⟩ | ⟨h1, h2, h3, h4, h5⟩
    · refine ⟨i, hi, ?_⟩
      rw [thn, if_pos ⟨by omega, by rw [h2]; exact hfi, by omega⟩, cnd]
      omega
    · have := und i hi h1
      refine ⟨i, hi, this.1, ?_⟩
      rw [this.2, cnd]
      omega
  · have hk1 : gn S.2 i + 1 < (tp l i).2.length := by omega
    have h4 := d.d4 i _ hi hk1
    obtain ⟨e, he⟩ : ∃ e : Nat, lgE es l i (gn S.2 i) = e := ⟨(lgE es l i (gn S.2 i)).toNat, by omega⟩
    rw [cnd, he] at hc
    have htk : gb P.pt e = true := by
      cases ht : gb P.pt e with
      | true => rfl
      | false =>
        have := j.jf e (by omega) ht
        omega
    obtain ⟨k, hk, hk2, hk3⟩ := j.jk e (by omega) htk
    have := und k hk hk2
    refine ⟨k, hk, this.1, ?_⟩
    rw [this.2, cnd, he]
    rcases j.ju k hk with h' | h'
    · omega
    · have := h'.2.2.2.2
      rw [hk3] at this
      omega
theorem JU.stop (d : Dy es l la) (j : JU es l la (fun _ => m + 1) m P S) (hm : -1 ≤ m) (hc : ∀ i, i < l.length → fin l S i = false → m < cnd es l la S i) (hn : nxT l m P l.length < 0) : P.ps = pday es l la := by
  rcases nxT_cases (l := l) (P := P) hm l.length with ⟨h1, h2⟩ | h1
  · rw [j.js, gd_last j.jg]
    intro i hi
    cases hf : fin l S i with
    | true => rfl
    | false =>
      obtain ⟨k, k1, k2, k3⟩ := j.event d hm hi hf (hc i hi hf)
      have := h2 k k1
      omega
  · omega
/-- The next event. -/
theorem JU.turn (d : Dy es l la) (j : JU es l la (fun _ => m + 1) m P S) (hm : -1 ≤ m) (hc : ∀ i, i < l.length → fin l S i = false → m < cnd es l la S i) (hn : nxT l m P l.length = m') (h0 : 0 ≤ m') : m < m' ∧ m' ≤ 110000 + 100000 * (S.1.length : Int) ∧ JU es l la (fun _ => m') m' P S ∧ ∀ i, i < l.length → fin l S i = false → m' ≤ cnd es l la S i := by
  rcases nxT_cases (l := l) (P := P) hm l.length with ⟨h1, h2⟩ | ⟨h1, ⟨i, h2, h3⟩, h4⟩
  · omega
  rw [hn] at h1 h3 h4
  have hb : m' ≤ 110000 + 100000 * (S.1.length : Int) := by
    rw [← h3]
    have hr := rdy_bd d j.jg h2
    rw [thn]
    split
    · rename_i c
      rcases j.ju i h2 with h' | h'
      · omega
      · omega
    · rcases j.ju i h2 with h' | h'
      · omega
      · omega
  refine ⟨h1, hb, ⟨j.ja, j.jr, j.je, j.jt, j.js, j.jg, j.jw, fun i hi => ?_, j.jk, fun e he ht => ?_⟩, fun i hi hf => ?_⟩
  · rcases j.ju i hi with h' | ⟨h5, h6, h7⟩
    · exact .inl h'
    · refine .inr ⟨h5, ?_, h7⟩
      have e : thn l m P i = gi P.pe i := by rw [thn, if_neg (fun h => by omega)]
      have := h4 i hi (by rw [e]; omega)
      omega
  · have := j.jf e he ht
    omega
  · obtain ⟨k, k1, k2, k3⟩ := j.event d hm hi hf (hc i hi hf)
    have := h4 k k1 k2
    omega
theorem JU.arr (d : Dy es l la) (h0 : 0 ≤ m) (j : JU es l la (fun k => if k < n then m + 1 else m) m P S) (hn : n < l.length) : JU es l la (fun k => if k < n + 1 then m + 1 else m) m (arr1 es l m P n) S := by
  have other : ∀ i, i < l.length → i ≠ n ∨ gi P.pe n ≠ m → (if i < n then m + 1 else m) ≤ gi P.pe i → (if i < n + 1 then m + 1 else m) ≤ gi P.pe i := by
    intro i hi h h1
    split
    · split at h1
      · exact h1
      · have : i = n := by omega
        subst this
        omega
    · rw [if_neg (by omega)] at h1
      exact h1
  rw [arr1]
  by_cases c : gi P.pe n = m
  rotate_left
  · rw [if_neg c]
    refine ⟨j.ja, j.jr, j.je, j.jt, j.js, j.jg, j.jw, fun i hi => ?_, j.jk, j.jf⟩
    rcases j.ju i hi with h' | ⟨h5, h6, h7⟩
    · exact .inl h'
    · exact .inr ⟨h5, other i hi (.inr c) h6, h7⟩
  rw [if_pos c]
  have hlg := j.leg d hn (.inl (by omega))
  have h4 := d.d4 n _ hn hlg
  have hE : legE es l P n = lgE es l n (gn P.pa n) := rfl
  rw [← hE] at h4
  have ja := j.ja
  have jr := j.jr
  have je := j.je
  have jt := j.jt
  have sA : ∀ i, gn (P.pa.set n (gn P.pa n + 1)) i = if i = n then gn P.pa n + 1 else gn P.pa i := gn_set (by omega) _
  have sR : ∀ i, gi (P.pr.set n (max (dp l n (gn P.pa n + 1)) m)) i = if i = n then max (dp l n (gn P.pa n + 1)) m else gi P.pr i := gi_set (by omega) _
  have sE : ∀ i, gi (P.pe.set n (-1)) i = if i = n then -1 else gi P.pe i := gi_set (by omega) _
  have sT : ∀ i, gb (P.pt.set (legE es l P n).toNat false) i = if i = (legE es l P n).toNat then false else gb P.pt i := gb_set (by omega) _
  obtain ⟨P', hP⟩ : ∃ P' : Ps, P' = { P with pt := P.pt.set (legE es l P n).toNat false, pe := P.pe.set n (-1), pa := P.pa.set n (gn P.pa n + 1), pr := P.pr.set n (max (dp l n (gn P.pa n + 1)) m) } := ⟨_, rfl⟩
  rw [← hP]
  have e1 : P'.pa = P.pa.set n (gn P.pa n + 1) := by rw [hP]
  have e2 : P'.pr = P.pr.set n (max (dp l n (gn P.pa n + 1)) m) := by rw [hP]
  have e3 : P'.pe = P.pe.set n (-1) := by rw [hP]
  have e4 : P'.pt = P.pt.set (legE es l P n).toNat false := by rw [hP]
  have e5 : P'.ps = P.ps := by rw [hP]
  have e6 : P'.pw = P.pw := by rw [hP]
  have lE : ∀ i, i ≠ n → legE es l P' i = legE es l P i := fun i hi => by rw [legE, legE, e1, sA, if_neg hi]
  refine ⟨by rw [e1, List.length_set, ja], by rw [e2, List.length_set, jr], by rw [e3, List.length_set, je], by rw [e4, List.length_set, jt], by rw [e5, j.js], j.jg, by rw [e6, j.jw], fun i hi => ?_, fun e he ht => ?_, fun e he ht => ?_⟩
  · by_cases e : i = n
    · subst e
      left
      rw [e1, e2, e3, sA, sR, sE, if_pos rfl, if_pos rfl, if_pos rfl]
      rcases j.ju i hi with h' | ⟨h5, h6, h7, h8, h9⟩
      · omega
      · refine ⟨rfl, h7, ?_⟩
        rw [h8, h7, c]
    · rw [e1, e2, e3, sA, sR, sE, if_neg e, if_neg e, if_neg e, lE i e]
      rcases j.ju i hi with h' | ⟨h5, h6, h7⟩
      · exact .inl h'
      · exact .inr ⟨h5, other i hi (.inl e) h6, h7⟩
  · rw [e4, sT] at ht
    split at ht
    · cases ht
    · rename_i hne
      obtain ⟨i, i1, i2, i3⟩ := j.jk e he ht
      have : i ≠ n := fun h => by
        subst h
        omega
      refine ⟨i, i1, ?_, ?_⟩
      · rw [e3, sE, if_neg this]; exact i2
      · rw [lE i this]; exact i3
  · rw [e4, sT] at ht
    split at ht
    · rename_i hne
      rcases j.ju n hn with h' | ⟨h5, h6, h7, h8, h9⟩
      · omega
      · have : (e : Int) = legE es l P n := by omega
        rw [this, h9]
        omega
    · exact j.jf e he ht
theorem JU.arrs (d : Dy es l la) (h0 : 0 ≤ m) (j : JU es l la (fun _ => m) m P S) : ∀ n, n ≤ l.length → JU es l la (fun k => if k < n then m + 1 else m) m (arrT es l m P n) S := by
  intro n
  induction n with
  | zero => intro _; exact j
  | succ n ih => intro hn; exact (ih (by omega)).arr d h0 (by omega)
theorem JU.low (j : JU es l la lo m P S) (h : ∀ i, i < l.length → lo' i ≤ lo i) : JU es l la lo' m P S :=
  ⟨j.ja, j.jr, j.je, j.jt, j.js, j.jg, j.jw, fun i hi => by
    rcases j.ju i hi with h' | ⟨h5, h6, h7⟩
    · exact .inl h'
    · exact .inr ⟨h5, by have := h i hi; omega, h7⟩, j.jk, j.jf⟩
end
section
variable {es : List Ed} {l : List Tp} {la : List Int} {S : Sd} {P : Ps} {lo lo' : Nat → Int} {m m' : Int} {i k n : Nat}
theorem wsum_app (rs0 rs : List Rn) (r : Rn) : wsum l la rs0 (rs ++ [r]) = wsum l la rs0 rs + (r.2.2.1 - rdy l la rs0 r.1.toNat r.2.1.toNat) := by
  induction rs with
  | nil => simp only [List.nil_append, wsum]; omega
  | cons q rs ih => simp only [List.cons_append, wsum, ih]; omega
theorem wsum_congr {rs0 rs1 : List Rn} : ∀ {rs : List Rn}, (∀ r, r ∈ rs → rdy l la rs1 r.1.toNat r.2.1.toNat = rdy l la rs0 r.1.toNat r.2.1.toNat) → wsum l la rs1 rs = wsum l la rs0 rs
  | [], _ => rfl
  | r :: rs, h => by rw [wsum, wsum, h r (by simp), wsum_congr (rs := rs) (fun q hq => h q (by simp [hq]))]
theorem rdy_app {rs : List Rn} (r : Rn) (h : 0 < k → ∃ t, fnd rs i (k - 1) = some t) : rdy l la (rs ++ [r]) i k = rdy l la rs i k := by
  rw [rdy, rdy]
  by_cases e : k = 0
  · rw [if_pos e, if_pos e]
  · obtain ⟨t, ht⟩ := h (by omega)
    rw [if_neg e, if_neg e, fnd_app, ht]
/-- A leg that has run is behind its trip. -/
theorem Gd.behind (g : Gd es l la S) {r : Rn} (h : r ∈ S.1) : ∃ i k : Nat, r.1 = i ∧ r.2.1 = k ∧ i < l.length ∧ k < gn S.2 i := by
  obtain ⟨_, _, _, i, k, h1, h2, h3, h4⟩ := g.gt r h
  refine ⟨i, k, h1, h2, h3, ?_⟩
  rcases Nat.lt_or_ge k (gn S.2 i) with c | c
  · exact c
  · have := (g.gf i k h3).2 c
    rw [fnd, Option.map_eq_none_iff, List.find?_eq_none] at this
    have := this r h
    simp [hitR, h1, h2] at this
theorem Gd.rdyk (g : Gd es l la S) (q : Rn) (hi : i < l.length) (hk : k ≤ gn S.2 i) : rdy l la (S.1 ++ [q]) i k = rdy l la S.1 i k :=
  rdy_app q fun h => (g.gf i (k - 1) hi).1 (by omega)
theorem Gd.wsum (g : Gd es l la S) (q : Rn) : wsum l la (S.1 ++ [q]) S.1 = wsum l la S.1 S.1 := by
  refine wsum_congr fun r hr => ?_
  obtain ⟨i, k, h1, h2, h3, h4⟩ := g.behind hr
  rw [h1, h2, Int.toNat_natCast, Int.toNat_natCast]
  exact g.rdyk q h3 (by omega)
theorem wsum_bd {B : Int} : ∀ {rs rs0 : List Rn}, (∀ r, r ∈ rs → 0 ≤ r.2.2.1 ∧ r.2.2.1 ≤ B ∧ 0 ≤ rdy l la rs0 r.1.toNat r.2.1.toNat ∧ rdy l la rs0 r.1.toNat r.2.1.toNat ≤ B) → -(B * rs.length) ≤ wsum l la rs0 rs ∧ wsum l la rs0 rs ≤ B * rs.length
  | [], _, _ => by simp [_root_.Go.Proofs.Ytjjglonmaajjoaa.AX.wsum]
  | r :: rs, rs0, h => by
    have h1 := h r (by simp)
    have := wsum_bd (B := B) (rs := rs) (rs0 := rs0) (fun q hq => h q (by simp [hq]))
    have e : B * ((r :: rs).length : Int) = B * rs.length + B := by rw [List.length_cons, Int.natCast_add, Int.mul_add]; omega
    rw [_root_.Go.Proofs.Ytjjglonmaajjoaa.AX.wsum, e]
    omega
theorem gd_w (d : Dy es l la) (g : Gd es l la S) : -9000000000 ≤ wsum l la S.1 S.1 ∧ wsum l la S.1 S.1 ≤ 9000000000 := by
  have hl := gd_len d g
  have := wsum_bd (l := l) (la := la) (B := 30000000) (rs := S.1) (rs0 := S.1) (fun r hr => by
    have h := g.gt r hr
    obtain ⟨i, k, h1, h2, h3, h4⟩ := g.behind hr
    have hk := g.gk i h3
    have h2d := d.d2 i k h3 (by omega)
    have h5 := d.d5 i h3
    refine ⟨h.1, by omega, ?_⟩
    rw [h1, h2, Int.toNat_natCast, Int.toNat_natCast, rdy]
    split
    · rename_i e
      rw [e] at h2d
      omega
    · obtain ⟨t, ht⟩ := (g.gf i (k - 1) h3).1 (by omega)
      obtain ⟨q, hq, hqt⟩ := fnd_mem ht
      have := g.gt q hq
      rw [ht]
      simp only []
      omega)
  omega
theorem JU.stayed (d : Dy es l la) (h0 : 0 ≤ m) (j : JU es l la (fun _ => m + 1) m P S) (hi : i < l.length) (hs : stay es l m P i = true) (hf : fin l S i = false) : m < cnd es l la S i := by
  have hfi : ¬ gn S.2 i + 1 = (tp l i).2.length := by simpa [fin] using hf
  have hk := j.jg.gk i hi
  simp only [stay, Bool.or_eq_true, decide_eq_true_eq] at hs
  rw [cnd]
  rcases j.ju i hi with ⟨h1, h2, h3⟩ | ⟨h1, h2, h3, h4, h5⟩
  · rcases hs with h | h | h | h
    · omega
    · omega
    · omega
    · have h4 := d.d4 i (gn P.pa i) hi (by omega)
      have hE : legE es l P i = lgE es l i (gn P.pa i) := rfl
      obtain ⟨q, hq, hq2, hq3⟩ := j.jk _ (by omega) h
      rw [← h2]
      rcases j.ju q hq with h' | ⟨g1, g2, g3, g4, g5⟩
      · omega
      · have e : lgE es l i (gn P.pa i) = legE es l P q := by omega
        rw [e, g5]
        omega
  · omega
theorem JU.go (d : Dy es l la) (h0 : 0 ≤ m) (j : JU es l la (fun _ => m + 1) m P S) (hi : i < l.length) (hs : stay es l m P i = false) (hc : ∀ q, q < l.length → fin l S q = false → m ≤ cnd es l la S q ∧ (q < i → m < cnd es l la S q)) :
    JU es l la (fun _ => m + 1) m (go1 es l m P i) (nxtS l S i m) ∧ ∀ q, q < l.length → fin l (nxtS l S i m) q = false → m ≤ cnd es l la (nxtS l S i m) q ∧ (q < i + 1 → m < cnd es l la (nxtS l S i m) q) := by
  simp only [stay, Bool.or_eq_false_iff, decide_eq_false_iff_not] at hs
  obtain ⟨s1, s2, s3, s4⟩ := hs
  have hk := j.jg.gk i hi
  obtain ⟨h1, h2, h3⟩ : gi P.pe i = -1 ∧ gn P.pa i = gn S.2 i ∧ gi P.pr i = rdy l la S.1 i (gn S.2 i) := by
    rcases j.ju i hi with h | ⟨h, _⟩
    · exact h
    · exact absurd h s2
  have hk1 : gn S.2 i + 1 < (tp l i).2.length := by omega
  have h4 := d.d4 i _ hi hk1
  have hE : legE es l P i = lgE es l i (gn S.2 i) := by rw [legE, h2]
  have hfr := j.jf (legE es l P i).toNat (by omega) s4
  rw [hE, Int.toNat_of_nonneg h4.1] at hfr
  have hf : fin l S i = false := by simp [fin]; omega
  have hcm : cnd es l la S i = m := by
    have := (hc i hi hf).1
    rw [cnd] at this ⊢
    omega
  have hpk : pkT es l la S l.length = some (i, cnd es l la S i) := by
    refine pkT_pick hi hf (fun q hq hqf => ?_) (fun q hq hqf => ?_)
    · have := (hc q (by omega) hqf).2 hq; omega
    · have := (hc q hq hqf).1; omega
  have hg := gd_next d j.jg hpk
  rw [hcm] at hg
  have hd2 := d.d2 i (gn S.2 i) hi hk
  have hd3 := d.d3 i (gn S.2 i) hi hk1
  obtain ⟨t, ht⟩ : ∃ t, t = m + av l i (gn S.2 i + 1) - dp l i (gn S.2 i) := ⟨_, rfl⟩
  have htm : m < t := by omega
  have hto : endT l m P i = t := by rw [endT, h2, ht]
  obtain ⟨S', hS⟩ : ∃ S', S' = nxtS l S i m := ⟨_, rfl⟩
  have eS1 : S'.1 = S.1 ++ [((i : Int), (gn S.2 i : Int), m, t)] := by rw [hS, nxtS, ht]
  have eS2 : S'.2 = S.2.set i (gn S.2 i + 1) := by rw [hS, nxtS]
  rw [← hS] at hg ⊢
  have gl := j.jg.gl
  have nS : ∀ q, gn S'.2 q = if q = i then gn S.2 i + 1 else gn S.2 q := fun q => by rw [eS2]; exact gn_set (by omega) _ q
  have rE : rnE es l ((i : Int), (gn S.2 i : Int), m, t) = lgE es l i (gn S.2 i) := by simp [rnE]
  have fS : ∀ e, fre es l S'.1 e = if lgE es l i (gn S.2 i) = e then max (fre es l S.1 e) t else fre es l S.1 e := fun e => by rw [eS1, fre_app, rE]
  have rS : ∀ q, q < l.length → rdy l la S'.1 q (gn S'.2 q) = if q = i then max (dp l i (gn S.2 i + 1)) t else rdy l la S.1 q (gn S.2 q) := by
    intro q hq
    rw [nS, eS1]
    by_cases e : q = i
    · subst e
      rw [if_pos rfl, if_pos rfl, rdy, if_neg (by omega), Nat.add_sub_cancel, fnd_app, (j.jg.gf q _ hq).2 (Nat.le_refl _)]
      simp [hitR]
    · rw [if_neg e, if_neg e]
      exact j.jg.rdyk _ hq (Nat.le_refl _)
  have wS : wsum l la S'.1 S'.1 = wsum l la S.1 S.1 + (m - rdy l la S.1 i (gn S.2 i)) := by
    rw [eS1, wsum_app, j.jg.wsum]
    simp only [Int.toNat_natCast]
    rw [j.jg.rdyk _ hi (Nat.le_refl _)]
  have cS : ∀ q, q < l.length → q ≠ i → cnd es l la S q ≤ cnd es l la S' q ∧ fin l S' q = fin l S q := by
    intro q hq e
    have r := rS q hq
    rw [if_neg e] at r
    have n := nS q
    rw [if_neg e] at n
    rw [cnd, cnd, r, fS, n, fin, fin, n]
    refine ⟨?_, rfl⟩
    split <;> omega
  have ja := j.ja
  have jr := j.jr
  have je := j.je
  have jt := j.jt
  have sE : ∀ q, gi (P.pe.set i t) q = if q = i then t else gi P.pe q := gi_set (by omega) _
  have sT : ∀ q, gb (P.pt.set (legE es l P i).toNat true) q = if q = (legE es l P i).toNat then true else gb P.pt q := gb_set (by omega) _
  obtain ⟨P', hP⟩ : ∃ P' : Ps, P' = go1 es l m P i := ⟨_, rfl⟩
  rw [← hP]
  have e1 : P'.pa = P.pa := by rw [hP, go1]
  have e2 : P'.pr = P.pr := by rw [hP, go1]
  have e3 : P'.pe = P.pe.set i t := by rw [hP, go1, hto]
  have e4 : P'.pt = P.pt.set (legE es l P i).toNat true := by rw [hP, go1]
  have e5 : P'.ps = P.ps ++ [((i : Int), (gn P.pa i : Int), m, t)] := by rw [hP, go1, hto]
  have e6 : P'.pw = P.pw + (m - gi P.pr i) := by rw [hP, go1]
  have lE : ∀ q, legE es l P' q = legE es l P q := fun q => by rw [legE, legE, e1]
  refine ⟨⟨by rw [e1, ja], by rw [e2, jr], by rw [e3, List.length_set, je], by rw [e4, List.length_set, jt], by rw [e5, j.js, eS1, h2], hg, by rw [e6, j.jw, wS, h3], fun q hq => ?_, fun e he hte => ?_, fun e he hte => ?_⟩, fun q hq hqf => ?_⟩
  · rw [e1, e2, e3, sE, lE, rS q hq, nS, fS]
    by_cases e : q = i
    · subst e
      right
      rw [if_pos rfl, if_pos rfl, if_pos rfl, hE, if_pos rfl]
      exact ⟨by omega, by omega, by omega, rfl, by omega⟩
    · rw [if_neg e, if_neg e, if_neg e]
      rcases j.ju q hq with h | ⟨g1, g2, g3, g4, g5⟩
      · exact .inl h
      · refine .inr ⟨g1, g2, g3, g4, ?_⟩
        rw [if_neg (fun h => by rw [h] at hfr; omega)]
        exact g5
  · rw [e4, sT] at hte
    split at hte
    · rename_i hh
      refine ⟨i, hi, ?_, ?_⟩
      · rw [e3, sE, if_pos rfl]; omega
      · rw [lE]; omega
    · obtain ⟨q, q1, q2, q3⟩ := j.jk e he hte
      refine ⟨q, q1, ?_, ?_⟩
      · rw [e3, sE]; split <;> omega
      · rw [lE]; exact q3
  · rw [e4, sT] at hte
    split at hte
    · cases hte
    · rename_i hh
      have := j.jf e he hte
      rw [fS, if_neg (by omega)]
      exact this
  · by_cases e : q = i
    · subst e
      have : m < cnd es l la S' q := by
        rw [cnd, rS q hq, if_pos rfl]
        omega
      exact ⟨by omega, fun _ => this⟩
    · obtain ⟨c1, c2⟩ := cS q hq e
      rw [c2] at hqf
      have := hc q hq hqf
      exact ⟨by omega, fun h => by have := this.2 (by omega); omega⟩
theorem JU.lvs (d : Dy es l la) (h0 : 0 ≤ m) (j : JU es l la (fun _ => m + 1) m P S) (hc : ∀ q, q < l.length → fin l S q = false → m ≤ cnd es l la S q) : ∀ n, n ≤ l.length → ∃ S', JU es l la (fun _ => m + 1) m (lvT es l m P n) S' ∧ ∀ q, q < l.length → fin l S' q = false → m ≤ cnd es l la S' q ∧ (q < n → m < cnd es l la S' q) := by
  intro n
  induction n with
  | zero => intro _; exact ⟨S, j, fun q hq hf => ⟨hc q hq hf, fun h => by omega⟩⟩
  | succ n ih =>
    intro hn
    obtain ⟨S', j', c'⟩ := ih (by omega)
    rw [lvT, lv1]
    cases hs : stay es l m (lvT es l m P n) n with
    | true =>
      rw [if_pos rfl]
      refine ⟨S', j', fun q hq hf => ⟨(c' q hq hf).1, fun h => ?_⟩⟩
      by_cases e : q = n
      · subst e
        exact j'.stayed d h0 hq hs hf
      · exact (c' q hq hf).2 (by omega)
    | false =>
      rw [if_neg (by simp)]
      obtain ⟨h1, h2⟩ := j'.go d h0 (by omega) hs c'
      exact ⟨_, h1, h2⟩
/-- What a minute has left behind: nobody can leave any more at it. -/
def Jm (es : List Ed) (l : List Tp) (la : List Int) (m : Int) (P : Ps) : Prop := ∃ S, JU es l la (fun _ => m + 1) m P S ∧ ∀ i, i < l.length → fin l S i = false → m < cnd es l la S i
theorem Jm.arrs (d : Dy es l la) (j : Jm es l la m P) (hm : -1 ≤ m) (hn : nxT l m P l.length = m') (h0 : 0 ≤ m') : m < m' ∧ m' ≤ 27000000 ∧ ∃ S, (∀ n, n ≤ l.length → JU es l la (fun k => if k < n then m' + 1 else m') m' (arrT es l m' P n) S) ∧ ∀ i, i < l.length → fin l S i = false → m' ≤ cnd es l la S i := by
  obtain ⟨S, j1, j2⟩ := j
  obtain ⟨t1, t2, t3, t4⟩ := j1.turn d hm j2 hn h0
  have := gd_len d j1.jg
  exact ⟨t1, by omega, S, t3.arrs d h0, t4⟩
theorem Jm.step (d : Dy es l la) (h0 : 0 ≤ m') (j : JU es l la (fun k => if k < l.length then m' + 1 else m') m' P S) (hc : ∀ i, i < l.length → fin l S i = false → m' ≤ cnd es l la S i) : (∀ n, n ≤ l.length → ∃ S', JU es l la (fun _ => m' + 1) m' (lvT es l m' P n) S') ∧ Jm es l la m' (lvT es l m' P l.length) := by
  have j' : JU es l la (fun _ => m' + 1) m' P S := j.low fun i hi => by rw [if_pos hi]; exact Int.le_refl _
  have := j'.lvs d h0 hc
  refine ⟨fun n hn => ?_, ?_⟩
  · obtain ⟨S', h1, _⟩ := this n hn
    exact ⟨S', h1⟩
  · obtain ⟨S', h1, h2⟩ := this l.length (Nat.le_refl _)
    exact ⟨S', h1, fun i hi hf => (h2 i hi hf).2 hi⟩
theorem Jm.stop (d : Dy es l la) (j : Jm es l la m P) (hm : -1 ≤ m) (hn : nxT l m P l.length < 0) : P.ps = pday es l la ∧ P.pw = wsum l la (pday es l la) (pday es l la) := by
  obtain ⟨S, j1, j2⟩ := j
  have h := j1.stop d hm j2 hn
  refine ⟨h, ?_⟩
  rw [j1.jw, ← j1.js, h]
end
/-- How the program's day begins. -/
theorem jm0 {es : List Ed} {l : List Tp} {la : List Int} (d : Dy es l la) {P : Ps} (h1 : P.pa.length = l.length) (h2 : ∀ i, gn P.pa i = 0) (h3 : P.pr.length = l.length) (h4 : ∀ i, i < l.length → gi P.pr i = dp l i 0 + gi la i) (h5 : P.pe.length = l.length) (h6 : ∀ i, i < l.length → gi P.pe i = -1) (h7 : P.pt.length = es.length) (h8 : ∀ i, gb P.pt i = false) (h9 : P.ps = []) (h10 : P.pw = 0) : Jm es l la (-1) P := by
  have hz : ∀ i, gn (List.replicate l.length 0) i = 0 := fun i => by
    rw [gn, List.getD_eq_getElem?_getD, List.getElem?_replicate]
    split <;> rfl
  refine ⟨pd0 l, ⟨h1, h3, h5, h7, h9, gd0 d, h10, fun i hi => ?_, fun e he h => ?_, fun e he h => ?_⟩, fun i hi hf => ?_⟩
  · left
    exact ⟨h6 i hi, by rw [pd0, hz, h2], by rw [pd0, hz, rdy, if_pos rfl, h4 i hi]⟩
  · rw [h8] at h
    cases h
  · show (0 : Int) ≤ _
    omega
  · have := (cnd_bd d (gd0 d) hi).1
    omega
end Go.Proofs.Ytjjglonmaajjoaa.AX
