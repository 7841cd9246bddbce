/- A plan that keeps trips apart is the day that is played; how late trips are. Plain. No condition beyond each law's own; nothing of the program. -/
import Derived.Test.YtjjglonmaajjoaaDap
import Derived.Test.YtjjglonmaajjoaaPlp2
namespace Go.Proofs.Ytjjglonmaajjoaa.AX
open Go
set_option maxRecDepth 10000
set_option linter.unusedSimpArgs false
set_option linter.unusedVariables false
def lgR (l : List Tp) (i k : Nat) : Rn := ((i : Int), (k : Int), dp l i k, av l i (k + 1))
abbrev planL (l : List Tp) : List Rn := planR (allR l l.length)
theorem mem_allR {l : List Tp} {x : Rn} : ∀ {n : Nat}, x ∈ allR l n ↔ ∃ i k : Nat, i < n ∧ k + 1 < (tp l i).2.length ∧ x = lgR l i k
  | 0 => by simp [allR]
  | n + 1 => by
    rw [allR, List.mem_append, mem_allR (n := n), legsU, List.mem_map]
    constructor
    · rintro (⟨i, k, h1, h2, h3⟩ | ⟨k, hk, rfl⟩)
      · exact ⟨i, k, by omega, h2, h3⟩
      · exact ⟨n, k, by omega, by have := List.mem_range.1 hk; omega, rfl⟩
    · rintro ⟨i, k, h1, h2, rfl⟩
      by_cases e : i = n
      · subst e; exact .inr ⟨k, List.mem_range.2 (by omega), rfl⟩
      · exact .inl ⟨i, k, by omega, h2, rfl⟩
theorem mem_plan {l : List Tp} {x : Rn} : x ∈ planL l ↔ ∃ i k : Nat, i < l.length ∧ k + 1 < (tp l i).2.length ∧ x = lgR l i k := by
  rw [planL, (planR_perm _).mem_iff, mem_allR]
section
variable {es : List Ed} {l : List Tp} {la : List Int} {S : Sd} {n : Int} {i k : Nat}
theorem rnNo_iff {r q : Rn} : rnNo es l r q = true ↔ ¬ (rnE es l q = rnE es l r ∧ q.2.2.1 < r.2.2.2 ∧ r.2.2.1 < q.2.2.2) := by
  rw [rnNo]
  by_cases a : rnE es l q = rnE es l r <;> by_cases b : q.2.2.1 < r.2.2.2 <;> by_cases c : r.2.2.1 < q.2.2.2 <;> simp [a, b, c]
theorem ap_two {rs : List Rn} (h : apart n es l rs = true) {x y : Rn} (hx : x ∈ rs) (hy : y ∈ rs) (hne : x ≠ y) : ¬ (rnE es l x = rnE es l y ∧ x.2.2.1 < y.2.2.2 ∧ y.2.2.1 < x.2.2.2) := by
  simp only [apart, Bool.and_eq_true, decide_eq_true_eq, allTo_iff] at h
  obtain ⟨a, ha, rfl⟩ := mem_rn hx
  obtain ⟨b, hb, rfl⟩ := mem_rn hy
  have get : ∀ i k, i < rs.length → k < i → rnNo es l (rn rs i) (rn rs k) = true := fun i k hi hk => by
    have := h.2.2 i hi
    rw [apRow, Bool.and_eq_true, allTo_iff] at this
    exact this.2 k hk
  rcases Nat.lt_trichotomy a b with c | c | c
  · have := rnNo_iff.1 (get b a hb c)
    exact fun ⟨h1, h2, h3⟩ => this ⟨h1, h2, h3⟩
  · subst c; exact absurd rfl hne
  · have := rnNo_iff.1 (get a b ha c)
    exact fun ⟨h1, h2, h3⟩ => this ⟨h1.symm, h3, h2⟩
theorem fre_le {rs : List Rn} {e B : Int} (hB : 0 ≤ B) (h : ∀ r, r ∈ rs → rnE es l r = e → r.2.2.2 ≤ B) : fre es l rs e ≤ B := by
  have key : ∀ (rs : List Rn) (a : Int), a ≤ B → (∀ r, r ∈ rs → rnE es l r = e → r.2.2.2 ≤ B) → rs.foldl (fre1 es l e) a ≤ B := by
    intro rs
    induction rs with
    | nil => intro a h1 _; exact h1
    | cons r rs ih =>
      intro a h1 h
      rw [List.foldl_cons]
      refine ih _ ?_ (fun q hq => h q (by simp [hq]))
      rw [fre1]
      split
      · rename_i c; exact h r (by simp) c.1
      · exact h1
  exact key rs 0 hB h
theorem pkT_lt {S : Sd} {n b : Nat} {w : Int} (h : pkT es l la S n = some (b, w)) : ∀ j, j < b → fin l S j = false → w < cnd es l la S j := by
  induction n generalizing b w with
  | zero => cases h
  | succ n ih =>
    intro j hj hf
    rw [pkT] at h
    split at h
    · exact ih h j hj hf
    · cases hp : pkT es l la S n with
      | none =>
        rw [hp] at h
        simp only [Option.some.injEq, Prod.mk.injEq] at h
        have := pkT_fin hp j (by omega)
        rw [this] at hf
        cases hf
      | some q =>
        obtain ⟨b', w'⟩ := q
        rw [hp] at h
        simp only [] at h
        split at h
        · rename_i hlt
          simp only [Option.some.injEq, Prod.mk.injEq] at h
          have := pkT_min hp j (by omega) hf
          omega
        · simp only [Option.some.injEq, Prod.mk.injEq] at h
          exact h.2 ▸ ih hp j (by omega) hf
structure PI (l : List Tp) (S : Sd) : Prop where
  p1 : ∀ r, r ∈ S.1 → ∃ i k : Nat, i < l.length ∧ k < gn S.2 i ∧ r = lgR l i k
  p2 : S.1.Pairwise ltR
  p3 : ∀ r, r ∈ S.1 → ∀ i, i < l.length → fin l S i = false → ltR r (lgR l i (gn S.2 i))
  p4 : ∀ i k, i < l.length → k < gn S.2 i → lgR l i k ∈ S.1
theorem fnd_hit' {rs : List Rn} {t : Int} (h : fnd rs i k = some t) : ∃ r, r ∈ rs ∧ hitR i k r = true ∧ r.2.2.2 = t := by
  rw [fnd, Option.map_eq_some_iff] at h
  obtain ⟨r, h1, h2⟩ := h
  exact ⟨r, List.mem_of_find?_eq_some h1, List.find?_some h1, h2⟩
theorem PI.rdyZ (p : PI l S) (d : Dy es l la) (g : Gd es l la S) (z : ∀ i, gi la i = 0) (hi : i < l.length) (hk : k ≤ gn S.2 i) : rdy l la S.1 i k = dp l i k := by
  have hg := g.gk i hi
  rw [rdy]
  by_cases e : k = 0
  · rw [if_pos e, e, z]; omega
  · rw [if_neg e]
    obtain ⟨t, ht⟩ := (g.gf i (k - 1) hi).1 (by omega)
    obtain ⟨r, hr, hh, hrt⟩ := fnd_hit' ht
    obtain ⟨i', k', _, _, rfl⟩ := p.p1 r hr
    have hh2 : i' = i ∧ k' = k - 1 := by
      have h1 : (decide ((i' : Int) = (i : Int)) && decide ((k' : Int) = ((k - 1 : Nat) : Int))) = true := hh
      rw [Bool.and_eq_true, decide_eq_true_eq, decide_eq_true_eq] at h1
      omega
    obtain ⟨rfl, rfl⟩ := hh2
    rw [ht]
    have h2 := (d.d2 i' k hi (by omega)).2.1
    have e2 : t = av l i' k := by
      rw [← hrt]
      show av l i' (k - 1 + 1) = _
      rw [show k - 1 + 1 = k by omega]
    simp only []
    omega
theorem PI.cndZ (p : PI l S) (d : Dy es l la) (g : Gd es l la S) (z : ∀ i, gi la i = 0) (ha : apart n es l (planL l) = true) (hi : i < l.length) (hf : fin l S i = false) : cnd es l la S i = dp l i (gn S.2 i) := by
  have hg := g.gk i hi
  have hk1 : gn S.2 i + 1 < (tp l i).2.length := by
    have : ¬ gn S.2 i + 1 = (tp l i).2.length := by simpa [fin] using hf
    omega
  have h2 := d.d2 i (gn S.2 i) hi hg
  have h3 := d.d3 i (gn S.2 i) hi hk1
  have hfr : fre es l S.1 (lgE es l i (gn S.2 i)) ≤ dp l i (gn S.2 i) := by
    refine fre_le (by omega) fun r hr he => ?_
    have hlt := p.p3 r hr i hi hf
    obtain ⟨j, q, hj, hq, rfl⟩ := p.p1 r hr
    have hjg := g.gk j hj
    have hne : lgR l j q ≠ lgR l i (gn S.2 i) := fun e => by rw [e] at hlt; exact irrR _ hlt
    have := ap_two ha (mem_plan.2 ⟨j, q, hj, by omega, rfl⟩) (mem_plan.2 ⟨i, gn S.2 i, hi, hk1, rfl⟩) hne
    have hE : rnE es l (lgR l i (gn S.2 i)) = lgE es l i (gn S.2 i) := by simp [rnE, lgR]
    rw [he, hE] at this
    have this2 : ¬ (lgE es l i (gn S.2 i) = lgE es l i (gn S.2 i) ∧ dp l j q < av l i (gn S.2 i + 1) ∧ dp l i (gn S.2 i) < av l j (q + 1)) := this
    have hlt2 : dp l j q < dp l i (gn S.2 i) ∨ dp l j q = dp l i (gn S.2 i) ∧ ((j : Int) < i ∨ (j : Int) = i ∧ (q : Int) < gn S.2 i) := hlt
    show av l j (q + 1) ≤ dp l i (gn S.2 i)
    omega
  rw [cnd, p.rdyZ d g z hi (Nat.le_refl _)]
  omega
theorem PI.zero (l : List Tp) : PI l (pd0 l) := by
  have hz : ∀ i, gn (List.replicate l.length 0) i = 0 := fun i => by
    rw [gn, List.getD_eq_getElem?_getD, List.getElem?_replicate]
    split <;> rfl
  refine ⟨fun r hr => ?_, List.Pairwise.nil, fun r hr => ?_, fun i k _ h => ?_⟩
  · cases hr
  · cases hr
  · rw [pd0, hz] at h; omega
theorem PI.step (p : PI l S) (d : Dy es l la) (g : Gd es l la S) (z : ∀ i, gi la i = 0) (ha : apart n es l (planL l) = true) (hp : pkT es l la S l.length = some (i, cnd es l la S i)) : PI l (nxtS l S i (cnd es l la S i)) := by
  obtain ⟨hi, hf, _⟩ := pkT_some hp
  have hmin := pkT_min hp
  have hlt := pkT_lt hp
  have hc := fun j hj hf => p.cndZ (i := j) d g z ha hj hf
  rw [hc i hi hf] at hmin hlt ⊢
  have gl := g.gl
  have hg := g.gk i hi
  have hk1 : gn S.2 i + 1 < (tp l i).2.length := by
    have : ¬ gn S.2 i + 1 = (tp l i).2.length := by simpa [fin] using hf
    omega
  have h3 := d.d3 i (gn S.2 i) hi hk1
  have h2' := d.d2 i (gn S.2 i + 1) hi hk1
  have nS : ∀ q, gn (nxtS l S i (dp l i (gn S.2 i))).2 q = if q = i then gn S.2 i + 1 else gn S.2 q := fun q => gn_set (by omega) _ q
  have enew : ((i : Int), (gn S.2 i : Int), dp l i (gn S.2 i), dp l i (gn S.2 i) + av l i (gn S.2 i + 1) - dp l i (gn S.2 i)) = lgR l i (gn S.2 i) := by
    rw [lgR, show dp l i (gn S.2 i) + av l i (gn S.2 i + 1) - dp l i (gn S.2 i) = av l i (gn S.2 i + 1) by omega]
  have e1 : (nxtS l S i (dp l i (gn S.2 i))).1 = S.1 ++ [lgR l i (gn S.2 i)] := by rw [nxtS, enew]
  have mem : ∀ r, r ∈ (nxtS l S i (dp l i (gn S.2 i))).1 → r ∈ S.1 ∨ r = lgR l i (gn S.2 i) := fun r hr => by rw [e1] at hr; simpa using hr
  have hfin : ∀ q, fin l (nxtS l S i (dp l i (gn S.2 i))) q = decide ((if q = i then gn S.2 i + 1 else gn S.2 q) + 1 = (tp l q).2.length) := fun q => by rw [fin, nS]
  refine ⟨fun r hr => ?_, ?_, fun r hr j hj hfj => ?_, fun j k hj hk => ?_⟩
  · rcases mem r hr with h | h
    · obtain ⟨a, b, h1, h2, h4⟩ := p.p1 r h
      refine ⟨a, b, h1, ?_, h4⟩
      rw [nS]
      split
      · rename_i e; subst e; omega
      · exact h2
    · exact ⟨i, gn S.2 i, hi, by rw [nS, if_pos rfl]; omega, h⟩
  · rw [e1, List.pairwise_append]
    refine ⟨p.p2, List.pairwise_singleton _ _, fun r hr q hq => ?_⟩
    simp only [List.mem_singleton] at hq
    subst hq
    exact p.p3 r hr i hi hf
  · rw [nS]
    rw [hfin] at hfj
    by_cases e : j = i
    · subst e
      rw [if_pos rfl]
      rcases mem r hr with h | h
      · have := p.p3 r h j hj hf
        simp only [ltR, bfR, lgR] at this ⊢
        omega
      · subst h
        simp only [ltR, bfR, lgR]
        omega
    · rw [if_neg e] at hfj ⊢
      have hfj' : fin l S j = false := by rw [fin]; exact hfj
      rcases mem r hr with h | h
      · exact p.p3 r h j hj hfj'
      · subst h
        have h5 := hmin j hj hfj'
        have h6 := fun hji => hlt j hji hfj'
        rw [hc j hj hfj'] at h5 h6
        simp only [ltR, bfR, lgR]
        omega
  · rw [e1, List.mem_append]
    rw [nS] at hk
    by_cases e : j = i
    · subst e
      rw [if_pos rfl] at hk
      by_cases e2 : k = gn S.2 j
      · subst e2; exact .inr (by simp)
      · exact .inl (p.p4 j k hj (by omega))
    · rw [if_neg e] at hk
      exact .inl (p.p4 j k hj hk)
theorem srt_eq {a b : List Rn} (ha : a.Pairwise ltR) (hb : b.Pairwise ltR) (h : ∀ x, x ∈ a ↔ x ∈ b) : a = b := by
  induction a generalizing b with
  | nil =>
    cases b with
    | nil => rfl
    | cons y b => have := (h y).2 (by simp); cases this
  | cons x a ih =>
    cases b with
    | nil => have := (h x).1 (by simp); cases this
    | cons y b =>
      rw [List.pairwise_cons] at ha hb
      have tr : ∀ {x y z : Rn}, ltR x y → ltR y z → ltR x z := fun {x y z} h1 h2 => odR.tr h1 h2
      have e : x = y := by
        rcases List.mem_cons.1 ((h x).1 (by simp)) with c | c
        · exact c
        · rcases List.mem_cons.1 ((h y).2 (by simp)) with c2 | c2
          · exact c2.symm
          · exact absurd (tr (ha.1 y c2) (hb.1 x c)) (irrR x)
      subst e
      rw [ih ha.2 hb.2 fun q => ?_]
      constructor
      · intro hq
        rcases List.mem_cons.1 ((h q).1 (List.mem_cons_of_mem _ hq)) with c | c
        · subst c; exact absurd (ha.1 _ hq) (irrR _)
        · exact c
      · intro hq
        rcases List.mem_cons.1 ((h q).2 (List.mem_cons_of_mem _ hq)) with c | c
        · subst c; exact absurd (hb.1 _ hq) (irrR _)
        · exact c
/-- The plan is the day; nobody waits; nobody is late. -/
theorem plan_day (d : Dy es l la) (z : ∀ i, gi la i = 0) (ha : apart n es l (planL l) = true) : pday es l la = planL l ∧ wsum l la (pday es l la) (pday es l la) = 0 ∧ ∀ i, i < l.length → latO l (pday es l la) i = 0 := by
  have hN : planL l = planL l := rfl
  obtain ⟨S, g, p, hf, e⟩ := pday_end d (PI l) (PI.zero l) (fun S i g p hp => p.step d g z ha hp)
  have hfi : ∀ i, i < l.length → gn S.2 i + 1 = (tp l i).2.length := fun i hi => by have := hf i hi; simpa [fin] using this
  rw [e]
  refine ⟨srt_eq p.p2 (planR_inc (allR_inc _)) fun x => ?_, ?_, fun i hi => ?_⟩
  · rw [mem_plan]
    constructor
    · intro hx
      obtain ⟨i, k, h1, h2, h3⟩ := p.p1 x hx
      exact ⟨i, k, h1, by have := hfi i h1; omega, h3⟩
    · rintro ⟨i, k, h1, h2, rfl⟩
      exact p.p4 i k h1 (by have := hfi i h1; omega)
  · have key : ∀ rs : List Rn, (∀ r, r ∈ rs → r.2.2.1 = rdy l la S.1 r.1.toNat r.2.1.toNat) → wsum l la S.1 rs = 0 := by
      intro rs
      induction rs with
      | nil => intro _; rfl
      | cons r rs ih =>
        intro h
        rw [wsum, ih (fun q hq => h q (by simp [hq])), ← h r (by simp)]
        omega
    refine key _ fun r hr => ?_
    obtain ⟨i, k, h1, h2, rfl⟩ := p.p1 r hr
    show dp l i k = rdy l la S.1 (i : Int).toNat (k : Int).toNat
    rw [Int.toNat_natCast, Int.toNat_natCast, p.rdyZ d g z h1 (by omega)]
  · have h1 := d.d1 i hi
    have h2 := hfi i hi
    obtain ⟨t, ht⟩ := (g.gf i ((tp l i).2.length - 2) hi).1 (by omega)
    obtain ⟨r, hr, hh, hrt⟩ := fnd_hit' ht
    obtain ⟨i', k', _, _, rfl⟩ := p.p1 r hr
    have hh2 : i' = i ∧ k' = (tp l i).2.length - 2 := by
      have h1 : (decide ((i' : Int) = (i : Int)) && decide ((k' : Int) = (((tp l i).2.length - 2 : Nat) : Int))) = true := hh
      rw [Bool.and_eq_true, decide_eq_true_eq, decide_eq_true_eq] at h1
      omega
    obtain ⟨rfl, rfl⟩ := hh2
    rw [latO, ht, ← hrt]
    show av l i' ((tp l i').2.length - 2 + 1) - _ = 0
    rw [show (tp l i').2.length - 2 + 1 = (tp l i').2.length - 1 by omega]
    omega
/-- What the stands of a trip can make up, as far as its k-th. -/
def spr (l : List Tp) (i : Nat) : Nat → Int
  | 0 => 0
  | k + 1 => spr l i k + dp l i (k + 1) - av l i (k + 1)
theorem rdy_le_cnd (i : Nat) : rdy l la S.1 i (gn S.2 i) ≤ cnd es l la S i := by rw [cnd]; omega
theorem lat_low (d : Dy es l la) (hi : i < l.length) : 0 ≤ latO l (pday es l la) i ∧ gi la i - spr l i ((tp l i).2.length - 2) ≤ latO l (pday es l la) i := by
  obtain ⟨S, g, hI, hf, e⟩ := pday_end d (fun S => ∀ i k t, i < l.length → fnd S.1 i k = some t → av l i (k + 1) ≤ t ∧ av l i (k + 1) + gi la i - spr l i k ≤ t) (fun i k t _ h => by cases h) (fun S p g hI hp j k t hj ht => by
      obtain ⟨hpl, hfp, _⟩ := pkT_some hp
      have hg := g.gk p hpl
      have hrc := rdy_le_cnd (es := es) (l := l) (la := la) (S := S) p
      have ht2 : fnd (S.1 ++ [((p : Int), (gn S.2 p : Int), cnd es l la S p, cnd es l la S p + av l p (gn S.2 p + 1) - dp l p (gn S.2 p))]) j k = some t := ht
      rw [fnd_app] at ht2
      cases ho : fnd S.1 j k with
      | some t' =>
        rw [ho] at ht2
        simp only [Option.some.injEq] at ht2
        subst ht2
        exact hI j k _ hj ho
      | none =>
        rw [ho] at ht2
        simp only [] at ht2
        split at ht2
        · rename_i hh
          simp only [hitR, Bool.and_eq_true, decide_eq_true_eq] at hh
          obtain rfl : p = j := by omega
          obtain rfl : gn S.2 p = k := by omega
          simp only [Option.some.injEq] at ht2
          subst ht2
          have h5 := d.d5 p hj
          by_cases e0 : gn S.2 p = 0
          · rw [rdy, if_pos e0] at hrc
            have e1 : dp l p (gn S.2 p) = dp l p 0 := by rw [e0]
            have e2 : spr l p (gn S.2 p) = 0 := by rw [e0]; rfl
            omega
          · rw [rdy, if_neg e0] at hrc
            obtain ⟨t0, ht0⟩ := (g.gf p (gn S.2 p - 1) hj).1 (by omega)
            rw [ht0] at hrc
            have h6 := hI p (gn S.2 p - 1) t0 hj ht0
            obtain ⟨m, hm⟩ : ∃ m, gn S.2 p = m + 1 := ⟨gn S.2 p - 1, by omega⟩
            rw [hm] at hrc h6 ⊢
            rw [Nat.add_sub_cancel] at h6
            simp only [spr] at hrc h6 ⊢
            omega
        · cases ht2)
  have h1 := d.d1 i hi
  have h2 : gn S.2 i + 1 = (tp l i).2.length := by have := hf i hi; simpa [fin] using this
  obtain ⟨t, ht⟩ := (g.gf i ((tp l i).2.length - 2) hi).1 (by omega)
  have h3 := hI i _ t hi ht
  rw [show (tp l i).2.length - 2 + 1 = (tp l i).2.length - 1 by omega] at h3
  rw [e, latO, ht]
  simp only [Option.getD_some]
  omega
theorem wait_low (d : Dy es l la) : 0 ≤ wsum l la (pday es l la) (pday es l la) := by
  obtain ⟨S, g, hI, hf, e⟩ := pday_end d (fun S => 0 ≤ wsum l la S.1 S.1) (Int.le_refl _) (fun S p g hI hp => by
      obtain ⟨hpl, hfp, _⟩ := pkT_some hp
      have hrc := rdy_le_cnd (es := es) (l := l) (la := la) (S := S) p
      show 0 ≤ wsum l la (S.1 ++ [_]) (S.1 ++ [_])
      rw [wsum_app, g.wsum]
      simp only [Int.toNat_natCast]
      rw [g.rdyk _ hpl (Nat.le_refl _)]
      omega)
  rw [e]
  exact hI
end
end Go.Proofs.Ytjjglonmaajjoaa.AX
