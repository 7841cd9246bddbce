/- What the day leaves: who waited, who is late. Plain. No condition beyond each law's own; nothing of the program. -/
import Derived.Test.YtjjglonmaajjoaaPda
namespace Go.Proofs.Ytjjglonmaajjoaa.AX
open Go
set_option maxRecDepth 10000
set_option linter.unusedSimpArgs false
set_option linter.unusedVariables false
section
variable {es : List Ed} {l : List Tp} {la : List Int} {S : Sd} {i k : Nat}
/-- What holds ahead of the first step and is kept by every step holds of the day's end. -/
theorem pday_end (d : Dy es l la) (I : Sd → Prop) (h0 : I (pd0 l)) (hs : ∀ S i, Gd es l la S → I S → pkT es l la S l.length = some (i, cnd es l la S i) → I (nxtS l S i (cnd es l la S i))) : ∃ S, Gd es l la S ∧ I S ∧ (∀ j, j < l.length → fin l S j = true) ∧ pday es l la = S.1 := by
  have key : ∀ n S, n = 300 - S.1.length → Gd es l la S → I S → ∃ S', Gd es l la S' ∧ I S' ∧ (∀ j, j < l.length → fin l S' j = true) ∧ pday es l la = S'.1 := by
    intro n
    induction n with
    | zero => intro S hn g _; have := gd_len d g; omega
    | succ n ih =>
      intro S hn g hI
      cases hp : pkT es l la S l.length with
      | none => exact ⟨S, g, hI, pkT_fin hp, gd_last g (pkT_fin hp)⟩
      | some p =>
        obtain ⟨p, w⟩ := p
        obtain ⟨h1, h2, h3⟩ := pkT_some hp
        subst h3
        have g' := gd_next d g hp
        exact ih _ (by simp only [nxtS, List.length_append, List.length_cons, List.length_nil]; omega) g' (hs S p g hI hp)
  exact key _ _ rfl (gd0 d) h0
/-- How late a trip comes to its end. -/
def latO (l : List Tp) (rs : List Rn) (i : Nat) : Int := (fnd rs i ((tp l i).2.length - 2)).getD 0 - av l i ((tp l i).2.length - 1)
def latL (es : List Ed) (l : List Tp) (la : List Int) : List Int := (List.range l.length).map (latO l (pday es l la))
def latS (l : List Tp) (o : List Int) (r : Rn) : List Int := o.set r.1.toNat (r.2.2.2 - av l r.1.toNat (r.2.1.toNat + 1))
theorem latS_len (rs : List Rn) (o : List Int) : (rs.foldl (latS l) o).length = o.length := by
  induction rs generalizing o with
  | nil => rfl
  | cons r rs ih => rw [List.foldl_cons, ih, latS, List.length_set]
theorem ext_gi {a b : List Int} (h : a.length = b.length) (he : ∀ i, i < a.length → gi a i = gi b i) : a = b := by
  refine List.ext_getElem h fun i h1 h2 => ?_
  have := he i h1
  rwa [gi, gi, getD_get _ _ h1, getD_get _ _ h2] at this
theorem latL_get (h : i < l.length) : gi (latL es l la) i = latO l (pday es l la) i := by
  rw [gi, latL, getD_get _ _ (by simpa using h)]
  simp
/-- The program's way to the same. -/
theorem lat_impl (d : Dy es l la) : (pday es l la).foldl (latS l) (List.replicate l.length 0) = latL es l la := by
  obtain ⟨S, g, hI, hf, e⟩ := pday_end d (fun S => ∀ i, i < l.length → 0 < gn S.2 i → ∃ t, fnd S.1 i (gn S.2 i - 1) = some t ∧ gi (S.1.foldl (latS l) (List.replicate l.length 0)) i = t - av l i (gn S.2 i)) (fun i hi h => by
      have : gn (pd0 l).2 i = 0 := by
        rw [pd0, gn, List.getD_eq_getElem?_getD, List.getElem?_replicate]
        split <;> rfl
      omega) (fun S p g hI hp j hj hpos => by
      obtain ⟨h1, h2, _⟩ := pkT_some hp
      have gl := g.gl
      have nS : ∀ q, gn (nxtS l S p (cnd es l la S p)).2 q = if q = p then gn S.2 p + 1 else gn S.2 q := fun q => gn_set (by omega) _ q
      have e1 : (nxtS l S p (cnd es l la S p)).1.foldl (latS l) (List.replicate l.length 0) = (S.1.foldl (latS l) (List.replicate l.length 0)).set p (cnd es l la S p + av l p (gn S.2 p + 1) - dp l p (gn S.2 p) - av l p (gn S.2 p + 1)) := by
        simp [nxtS, List.foldl_append, latS]
      rw [e1, gi_set (by rw [latS_len]; simpa using h1), nS]
      rw [nS] at hpos
      by_cases e : j = p
      · subst e
        rw [if_pos rfl, if_pos rfl]
        refine ⟨_, ?_, rfl⟩
        show fnd (S.1 ++ [_]) j (gn S.2 j + 1 - 1) = _
        rw [Nat.add_sub_cancel, fnd_app, (g.gf j _ hj).2 (Nat.le_refl _)]
        simp [hitR]
      · rw [if_neg e] at hpos
        rw [if_neg e, if_neg e]
        obtain ⟨t, ht, h⟩ := hI j hj hpos
        refine ⟨t, ?_, h⟩
        show fnd (S.1 ++ [_]) j (gn S.2 j - 1) = _
        rw [fnd_app, ht])
  refine ext_gi (by rw [latS_len, latL]; simp) fun i hi => ?_
  rw [latS_len, List.length_replicate] at hi
  have hfi : gn S.2 i + 1 = (tp l i).2.length := by have := hf i hi; simpa [fin] using this
  have h2 := d.d1 i hi
  obtain ⟨t, ht, h⟩ := hI i hi (by omega)
  rw [latL_get hi, e, h, latO, show (tp l i).2.length - 2 = gn S.2 i - 1 by omega, ht, show (tp l i).2.length - 1 = gn S.2 i by omega]
  rfl
theorem pday_fact (d : Dy es l la) : ∃ S, Gd es l la S ∧ (∀ j, j < l.length → fin l S j = true) ∧ pday es l la = S.1 := by
  obtain ⟨S, g, _, hf, e⟩ := pday_end d (fun _ => True) trivial (fun _ _ _ _ _ => trivial)
  exact ⟨S, g, hf, e⟩
theorem Gd.rdb (g : Gd es l la S) (d : Dy es l la) {r : Rn} (hr : r ∈ S.1) : 0 ≤ r.2.2.1 ∧ r.2.2.1 ≤ 30000000 ∧ 0 ≤ rdy l la S.1 r.1.toNat r.2.1.toNat ∧ rdy l la S.1 r.1.toNat r.2.1.toNat ≤ 30000000 := by
  have hl := gd_len d g
  have h := g.gt r hr
  obtain ⟨i, k, h1, h2, h3, h4⟩ := g.behind hr
  have hk := g.gk i h3
  have h2d := d.d2 i k h3 (by omega)
  have h5 := d.d5 i h3
  refine ⟨h.1, by omega, ?_⟩
  rw [h1, h2, Int.toNat_natCast, Int.toNat_natCast, rdy]
  split
  · rename_i e
    rw [e] at h2d
    omega
  · obtain ⟨t, ht⟩ := (g.gf i (k - 1) h3).1 (by omega)
    obtain ⟨q, hq, hqt⟩ := fnd_mem ht
    have := g.gt q hq
    rw [ht]
    simp only []
    omega
end
end Go.Proofs.Ytjjglonmaajjoaa.AX
