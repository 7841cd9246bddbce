/- The day's runs, one behind the other, plain. No condition beyond each law's own; nothing of the program. -/
import Derived.Test.YtjjglonmaajjoaaPdn
namespace Go.Proofs.Ytjjglonmaajjoaa.AX
open Go
set_option maxRecDepth 10000
set_option linter.unusedSimpArgs false
set_option linter.unusedVariables false
section
variable {es : List Ed} {l : List Tp} {la : List Int} {m : Int}
theorem fre_up (e : Int) : ∀ (rs : List Rn) (a : Int), a ≤ rs.foldl (fre1 es l e) a
  | [], a => Int.le_refl _
  | r :: rs, a => by
    rw [List.foldl_cons]
    have := fre_up e rs (fre1 es l e a r)
    have h : a ≤ fre1 es l e a r := by rw [fre1]; split <;> omega
    omega
theorem fre_mem {r : Rn} : ∀ {rs : List Rn} (a : Int), r ∈ rs → r.2.2.2 ≤ rs.foldl (fre1 es l (rnE es l r)) a
  | [], a, h => by cases h
  | q :: rs, a, h => by
    rw [List.foldl_cons]
    rcases List.mem_cons.1 h with h | h
    · subst h
      have := fre_up (es := es) (l := l) (rnE es l r) rs (fre1 es l (rnE es l r) a r)
      have h : r.2.2.2 ≤ fre1 es l (rnE es l r) a r := by
        rw [fre1]
        by_cases c : a < r.2.2.2
        · rw [if_pos ⟨rfl, c⟩]; omega
        · rw [if_neg (fun h => c h.2)]; omega
      omega
    · exact fre_mem _ h
def apt (es : List Ed) (l : List Tp) (r q : Rn) : Prop := (rnE es l r = rnE es l q ∨ r.1 = q.1) → r.2.2.2 ≤ q.2.2.1
theorem pday_apt (d : Dy es l la) : (pday es l la).Pairwise (apt es l) := by
  obtain ⟨S, g, ⟨h1, _⟩, _, e⟩ := pday_end d (fun S => S.1.Pairwise (apt es l) ∧ ∀ r, r ∈ S.1 → ∀ i, i < l.length → r.1 = (i : Int) → r.2.2.2 ≤ rdy l la S.1 i (gn S.2 i)) ⟨.nil, fun r hr => by cases hr⟩ (fun S p g hI hp => by
    obtain ⟨I1, I2⟩ := hI
    obtain ⟨hpl, hf, _⟩ := pkT_some hp
    have gl := g.gl
    have hk := g.gk p hpl
    have hk1 : gn S.2 p + 1 < (tp l p).2.length := by
      have : ¬ gn S.2 p + 1 = (tp l p).2.length := by simpa [fin] using hf
      omega
    have h3 := d.d3 p (gn S.2 p) hpl hk1
    have nS : ∀ q, gn (nxtS l S p (cnd es l la S p)).2 q = if q = p then gn S.2 p + 1 else gn S.2 q := fun q => gn_set (by omega) _ q
    have hcr : rdy l la S.1 p (gn S.2 p) ≤ cnd es l la S p := by rw [cnd]; omega
    have hcf : fre es l S.1 (lgE es l p (gn S.2 p)) ≤ cnd es l la S p := by rw [cnd]; omega
    have hnew : ∀ r, r ∈ (nxtS l S p (cnd es l la S p)).1 → r ∈ S.1 ∨ r = ((p : Int), (gn S.2 p : Int), cnd es l la S p, cnd es l la S p + av l p (gn S.2 p + 1) - dp l p (gn S.2 p)) := fun r hr => by simpa [nxtS] using hr
    refine ⟨?_, fun r hr i hi hri => ?_⟩
    · show (S.1 ++ [_]).Pairwise (apt es l)
      rw [List.pairwise_append]
      refine ⟨I1, List.pairwise_singleton _ _, fun r hr q hq => ?_⟩
      simp only [List.mem_singleton] at hq
      subst hq
      rintro (h | h)
      · have hm := fre_mem (es := es) (l := l) (r := r) 0 hr
        rw [h] at hm
        have hE : rnE es l ((p : Int), (gn S.2 p : Int), cnd es l la S p, cnd es l la S p + av l p (gn S.2 p + 1) - dp l p (gn S.2 p)) = lgE es l p (gn S.2 p) := by simp [rnE]
        rw [hE] at hm
        have : fre es l S.1 (lgE es l p (gn S.2 p)) = S.1.foldl (fre1 es l (lgE es l p (gn S.2 p))) 0 := rfl
        show r.2.2.2 ≤ cnd es l la S p
        omega
      · have := I2 r hr p hpl h
        show r.2.2.2 ≤ cnd es l la S p
        omega
    · rw [nS]
      by_cases e : i = p
      · subst e
        rw [if_pos rfl]
        have hr' : rdy l la (nxtS l S i (cnd es l la S i)).1 i (gn S.2 i + 1) = max (dp l i (gn S.2 i + 1)) (cnd es l la S i + av l i (gn S.2 i + 1) - dp l i (gn S.2 i)) := by
          rw [rdy, if_neg (by omega), Nat.add_sub_cancel]
          show (match fnd (S.1 ++ [_]) i (gn S.2 i) with | some t => max (dp l i (gn S.2 i + 1)) t | none => -1) = _
          rw [fnd_app, (g.gf i _ hi).2 (Nat.le_refl _)]
          simp [hitR]
        rw [hr']
        rcases hnew r hr with h | h
        · have := I2 r h i hi hri
          omega
        · rw [h]
          simp only []
          omega
      · rw [if_neg e]
        show r.2.2.2 ≤ rdy l la (S.1 ++ [_]) i (gn S.2 i)
        rw [g.rdyk _ hi (Nat.le_refl _)]
        rcases hnew r hr with h | h
        · exact I2 r h i hi hri
        · rw [h] at hri
          simp only [] at hri
          omega)
  rw [e]
  exact h1
theorem pkT_min {S : Sd} {n b : Nat} {w : Int} (h : pkT es l la S n = some (b, w)) : ∀ j, j < n → fin l S j = false → w ≤ cnd es l la S j := by
  induction n generalizing b w with
  | zero => cases h
  | succ n ih =>
    intro j hj hf
    rw [pkT] at h
    split at h
    · rename_i hn
      have : j ≠ n := fun e => by rw [e, hn] at hf; cases hf
      exact ih h j (by omega) hf
    · cases hp : pkT es l la S n with
      | none =>
        rw [hp] at h
        simp only [Option.some.injEq, Prod.mk.injEq] at h
        by_cases e : j = n
        · rw [e]; omega
        · have := pkT_fin hp j (by omega)
          rw [this] at hf
          cases hf
      | some q =>
        obtain ⟨b', w'⟩ := q
        rw [hp] at h
        simp only [] at h
        have ihj := fun (hjn : j < n) => ih hp j hjn hf
        split at h
        · simp only [Option.some.injEq, Prod.mk.injEq] at h
          by_cases e : j = n
          · rw [e]; omega
          · have := ihj (by omega); omega
        · simp only [Option.some.injEq, Prod.mk.injEq] at h
          by_cases e : j = n
          · rw [e]; omega
          · have := ihj (by omega); omega
def dnS (o : List Int) (r : Rn) : List Int := o.set r.1.toNat (r.2.1 + 1)
def frS (o : List Int) (r : Rn) : List Int := o.set r.1.toNat r.2.2.2
theorem dnS_len (rs : List Rn) (o : List Int) : (rs.foldl dnS o).length = o.length := by
  induction rs generalizing o with
  | nil => rfl
  | cons r rs ih => rw [List.foldl_cons, ih, dnS, List.length_set]
theorem frS_len (rs : List Rn) (o : List Int) : (rs.foldl frS o).length = o.length := by
  induction rs generalizing o with
  | nil => rfl
  | cons r rs ih => rw [List.foldl_cons, ih, frS, List.length_set]
def z0 (l : List Tp) : List Int := List.replicate l.length 0
/-- What a run is, by those ahead of it. -/
def rOk (l : List Tp) (la : List Int) (pfx : List Rn) (r : Rn) : Prop := ∃ i k : Nat, r.1 = i ∧ r.2.1 = k ∧ i < l.length ∧ k + 1 < (tp l i).2.length ∧ gi (pfx.foldl dnS (z0 l)) i = k ∧ gi (pfx.foldl frS (z0 l)) i ≤ r.2.2.1 ∧ (if k = 0 then dp l i k + gi la i else dp l i k) ≤ r.2.2.1 ∧ r.2.2.2 = r.2.2.1 + av l i (k + 1) - dp l i k ∧ ∀ q, q ∈ pfx → q.2.2.1 ≤ r.2.2.1
def rI (es : List Ed) (l : List Tp) (la : List Int) (S : Sd) : Prop := (∀ j, j < S.1.length → rOk l la (S.1.take j) (rn S.1 j)) ∧ (∀ i, i < l.length → gi (S.1.foldl dnS (z0 l)) i = gn S.2 i ∧ gi (S.1.foldl frS (z0 l)) i ≤ rdy l la S.1 i (gn S.2 i)) ∧ ∀ r, r ∈ S.1 → ∀ i, i < l.length → fin l S i = false → r.2.2.1 ≤ cnd es l la S i
theorem rI0 (d : Dy es l la) : rI es l la (pd0 l) := by
  refine ⟨fun j hj => by simp [pd0] at hj, fun i hi => ?_, fun r hr => by cases hr⟩
  have hz : gn (pd0 l).2 i = 0 := by
    rw [pd0, gn, List.getD_eq_getElem?_getD, List.getElem?_replicate]
    split <;> rfl
  have hz' : gi (z0 l) i = 0 := by
    rw [z0, gi, List.getD_eq_getElem?_getD, List.getElem?_replicate]
    split <;> rfl
  have hr := (rdy_bd d (gd0 d) hi).1
  refine ⟨?_, ?_⟩
  · show gi (z0 l) i = _
    rw [hz', hz]; rfl
  · show gi (z0 l) i ≤ _
    rw [hz']; exact hr
theorem rI_step (d : Dy es l la) (S : Sd) (p : Nat) (g : Gd es l la S) (hI : rI es l la S) (hp : pkT es l la S l.length = some (p, cnd es l la S p)) : rI es l la (nxtS l S p (cnd es l la S p)) := by
  obtain ⟨I1, I2, I3⟩ := hI
  obtain ⟨hpl, hf, _⟩ := pkT_some hp
  have hmin := pkT_min hp
  have gl := g.gl
  have hk := g.gk p hpl
  have hk1 : gn S.2 p + 1 < (tp l p).2.length := by
    have : ¬ gn S.2 p + 1 = (tp l p).2.length := by simpa [fin] using hf
    omega
  have h3 := d.d3 p (gn S.2 p) hpl hk1
  have nS : ∀ q, gn (nxtS l S p (cnd es l la S p)).2 q = if q = p then gn S.2 p + 1 else gn S.2 q := fun q => gn_set (by omega) _ q
  have hcr : rdy l la S.1 p (gn S.2 p) ≤ cnd es l la S p := by rw [cnd]; omega
  obtain ⟨w, hw⟩ : ∃ w, w = cnd es l la S p := ⟨_, rfl⟩
  obtain ⟨t, ht⟩ : ∃ t, t = w + av l p (gn S.2 p + 1) - dp l p (gn S.2 p) := ⟨_, rfl⟩
  have eS : (nxtS l S p (cnd es l la S p)).1 = S.1 ++ [((p : Int), (gn S.2 p : Int), w, t)] := by rw [nxtS, ht, hw]
  have hnew : ∀ r, r ∈ (nxtS l S p (cnd es l la S p)).1 → r ∈ S.1 ∨ r = ((p : Int), (gn S.2 p : Int), w, t) := fun r hr => by
    rw [eS] at hr; simpa using hr
  have rdyP : rdy l la (nxtS l S p (cnd es l la S p)).1 p (gn S.2 p + 1) = max (dp l p (gn S.2 p + 1)) t := by
    rw [eS, rdy, if_neg (by omega), Nat.add_sub_cancel, fnd_app, (g.gf p _ hpl).2 (Nat.le_refl _)]
    simp [hitR]
  have rdyO : ∀ q, q < l.length → rdy l la (nxtS l S p (cnd es l la S p)).1 q (gn S.2 q) = rdy l la S.1 q (gn S.2 q) := fun q hq => by
    rw [eS]; exact g.rdyk _ hq (Nat.le_refl _)
  have hdep : (if gn S.2 p = 0 then dp l p (gn S.2 p) + gi la p else dp l p (gn S.2 p)) ≤ rdy l la S.1 p (gn S.2 p) := by
    rw [rdy]
    by_cases c : gn S.2 p = 0
    · rw [if_pos c, if_pos c, c]; exact Int.le_refl _
    · obtain ⟨t', ht'⟩ := (g.gf p (gn S.2 p - 1) hpl).1 (by omega)
      rw [if_neg c, if_neg c, ht']
      simp only []
      omega
  rw [← hw] at hcr hmin
  refine ⟨fun j hj => ?_, fun i hi => ?_, fun r hr i hi hfi => ?_⟩
  · rw [eS] at hj ⊢
    rw [List.length_append, List.length_cons, List.length_nil] at hj
    by_cases e : j = S.1.length
    · subst e
      have e1 : (S.1 ++ [((p : Int), (gn S.2 p : Int), w, t)]).take S.1.length = S.1 := by rw [List.take_append_of_le_length (Nat.le_refl _), List.take_length]
      have e2 : rn (S.1 ++ [((p : Int), (gn S.2 p : Int), w, t)]) S.1.length = ((p : Int), (gn S.2 p : Int), w, t) := by
        rw [rn, List.getD_eq_getElem?_getD, List.getElem?_append_right (Nat.le_refl _), Nat.sub_self]; rfl
      rw [e1, e2]
      obtain ⟨i1, i2⟩ := I2 p hpl
      exact ⟨p, gn S.2 p, rfl, rfl, hpl, hk1, i1, by show _ ≤ w; omega, by show _ ≤ w; omega, by show t = w + _ - _; omega, fun q hq => by have := I3 q hq p hpl hf; show _ ≤ w; omega⟩
    · have e1 : (S.1 ++ [((p : Int), (gn S.2 p : Int), w, t)]).take j = S.1.take j := by rw [List.take_append_of_le_length (by omega)]
      have e2 : rn (S.1 ++ [((p : Int), (gn S.2 p : Int), w, t)]) j = rn S.1 j := by
        rw [rn, rn, List.getD_eq_getElem?_getD, List.getElem?_append_left (by omega), List.getD_eq_getElem?_getD]
      rw [e1, e2]
      exact I1 j (by omega)
  · obtain ⟨i1, i2⟩ := I2 i hi
    have f1 : (nxtS l S p (cnd es l la S p)).1.foldl dnS (z0 l) = (S.1.foldl dnS (z0 l)).set p ((gn S.2 p : Int) + 1) := by rw [eS, List.foldl_append]; simp [dnS]
    have f2 : (nxtS l S p (cnd es l la S p)).1.foldl frS (z0 l) = (S.1.foldl frS (z0 l)).set p t := by rw [eS, List.foldl_append]; simp [frS]
    rw [f1, f2, gi_set (by rw [dnS_len, z0]; simpa using hpl), gi_set (by rw [frS_len, z0]; simpa using hpl), nS]
    by_cases e : i = p
    · subst e
      rw [if_pos rfl, if_pos rfl, if_pos rfl, rdyP]
      exact ⟨by omega, by omega⟩
    · rw [if_neg e, if_neg e, if_neg e, rdyO i hi]
      exact ⟨i1, i2⟩
  · by_cases e : i = p
    · subst e
      have : t ≤ cnd es l la (nxtS l S i (cnd es l la S i)) i := by
        rw [cnd, nS, if_pos rfl, rdyP]
        omega
      rcases hnew r hr with h | h
      · have := I3 r h i hi hf
        omega
      · rw [h]
        simp only []
        omega
    · have hf' : fin l S i = false := by
        rw [fin, nS, if_neg e] at hfi
        exact hfi
      have hge : cnd es l la S i ≤ cnd es l la (nxtS l S p (cnd es l la S p)) i := by
        rw [cnd, cnd, nS, if_neg e, rdyO i hi, eS, fre_app]
        split <;> omega
      rcases hnew r hr with h | h
      · have := I3 r h i hi hf'
        omega
      · rw [h]
        have := hmin i hi hf'
        simp only []
        omega
theorem pday_rOk (d : Dy es l la) : ∀ j, j < (pday es l la).length → rOk l la ((pday es l la).take j) (rn (pday es l la) j) := by
  obtain ⟨S, g, h1, _, e⟩ := pday_end d (rI es l la) (rI0 d) (fun S p g hI hp => rI_step d S p g hI hp)
  rw [e]
  exact h1.1
/-- As many runs as legs. -/
theorem pday_legs (d : Dy es l la) : ∃ lg : List Nat, lg.length = l.length ∧ (∀ i, i < l.length → gn lg i + 1 = (tp l i).2.length) ∧ (pday es l la).length = lg.sum := by
  obtain ⟨S, g, hf, e⟩ := pday_fact d
  exact ⟨S.2, g.gl, fun i hi => by have := hf i hi; simpa [fin] using this, by rw [e]; exact g.gs⟩
/-- The day's runs stand apart. -/
theorem pday_stand (d : Dy es l la) {n : Int} (hr : ridden n es l = true) : apart n es l (pday es l la) = true := by
  obtain ⟨S, g, hf, e⟩ := pday_fact d
  have hap := pday_apt d
  have hlen := gd_len d g
  rw [e] at hap ⊢
  rw [apart, hr, decide_eq_true (by omega), Bool.true_and, Bool.true_and, allTo_iff]
  intro i hi
  have hmem : rn S.1 i ∈ S.1 := by rw [rn, getD_get _ _ hi]; exact List.getElem_mem hi
  obtain ⟨q1, q2, q3, a, k, h1, h2, h3, h4⟩ := g.gt _ hmem
  rw [apRow]
  refine Bool.and_eq_true_iff.2 ⟨?_, allTo_iff.2 fun k hk => ?_⟩
  · rw [rnOk, h1, h2, Int.toNat_natCast, inR_t (by omega), inR_t (by omega), decide_eq_true q2]; rfl
  · rw [rnNo]
    have hp := List.pairwise_iff_getElem.1 hap k i (by omega) hi hk
    have ek : rn S.1 k = S.1[k] := by rw [rn, getD_get _ _ (by omega)]
    have ei : rn S.1 i = S.1[i] := by rw [rn, getD_get _ _ hi]
    rw [ek, ei]
    by_cases c : rnE es l S.1[k] = rnE es l S.1[i]
    · have := hp (.inl c)
      rw [decide_eq_true c, decide_eq_false (show ¬ (S.1[i]).2.2.1 < (S.1[k]).2.2.2 by omega)]
      simp
    · rw [decide_eq_false c]; rfl
end
end Go.Proofs.Ytjjglonmaajjoaa.AX
