/- Sidings, plain: when they are right, and that a shunt keeps them so. No condition; nothing of the program. -/
import Derived.Test.YtiajbefljkikiaaYd4
namespace Go.Proofs.Ytiajbefljkikiaa.AX
open Go
set_option maxRecDepth 10000
set_option linter.unusedSimpArgs false
set_option linter.unusedVariables false
theorem rowGo_iff : ∀ (ws seen s : List Int), rowGo seen ws = some s ↔ s = seen ++ ws ∧ (∀ w ∈ ws, inR 1 9999 w = true) ∧ ws.Nodup ∧ ∀ w ∈ ws, w ∉ seen
  | [], seen, s => by
    have e : rowGo seen [] = some seen := rfl
    rw [e]
    constructor
    · intro h; cases h; exact ⟨by simp, by simp, by simp, by simp⟩
    · rintro ⟨h, _⟩; rw [h]; simp
  | x :: ws, seen, s => by
    have e : rowGo seen (x :: ws) = (stepW seen x).bind fun s1 => rowGo s1 ws := by simp [rowGo, List.foldlM_cons]
    rw [e, stepW]
    by_cases hc : (inR 1 9999 x && !(seen.contains x)) = true
    · rw [if_pos hc, Option.bind_some, rowGo_iff ws (seen ++ [x]) s]
      simp only [Bool.and_eq_true, Bool.not_eq_true', List.contains_eq_mem, decide_eq_false_iff_not] at hc
      constructor
      · rintro ⟨h1, h2, h3, h4⟩
        refine ⟨by rw [h1]; simp, ?_, List.nodup_cons.2 ⟨fun h => (h4 x h) (by simp), h3⟩, ?_⟩
        · intro w hw
          rcases List.mem_cons.1 hw with rfl | hw
          · exact hc.1
          · exact h2 w hw
        · intro w hw
          rcases List.mem_cons.1 hw with rfl | hw
          · exact hc.2
          · exact fun h => h4 w hw (by simp [h])
      · rintro ⟨h1, h2, h3, h4⟩
        obtain ⟨h5, h6⟩ := List.nodup_cons.1 h3
        refine ⟨by rw [h1]; simp, fun w hw => h2 w (by simp [hw]), h6, fun w hw h => ?_⟩
        rcases List.mem_append.1 h with h | h
        · exact h4 w (by simp [hw]) h
        · simp at h; subst h; exact h5 hw
    · rw [if_neg hc, Option.bind_none]
      constructor
      · intro h; cases h
      · rintro ⟨h1, h2, h3, h4⟩
        exact absurd (by simp [h2 x (by simp), h4 x (by simp)]) hc
theorem rows_iff : ∀ (ps : List (Int × List Int)) (seen s : List Int), ps.foldlM stepR seen = some s ↔ s = seen ++ (ps.map (·.2)).flatten ∧ (∀ p ∈ ps, inR 1 40 p.1 = true ∧ (p.2.length : Int) ≤ p.1) ∧ (∀ w ∈ (ps.map (·.2)).flatten, inR 1 9999 w = true) ∧ (ps.map (·.2)).flatten.Nodup ∧ ∀ w ∈ (ps.map (·.2)).flatten, w ∉ seen
  | [], seen, s => by
    have e : List.foldlM stepR seen ([] : List (Int × List Int)) = some seen := rfl
    rw [e]
    constructor
    · intro h; cases h; exact ⟨by simp, by simp, by simp, by simp, by simp⟩
    · rintro ⟨h, _⟩; rw [h]; simp
  | p :: ps, seen, s => by
    have e : (p :: ps).foldlM stepR seen = (stepR seen p).bind fun s1 => ps.foldlM stepR s1 := by simp [List.foldlM_cons]
    rw [e, stepR]
    simp only [List.map_cons, List.flatten_cons]
    by_cases hc : (inR 1 40 p.1 && decide ((p.2.length : Int) ≤ p.1)) = true
    · rw [if_pos hc]
      simp only [Bool.and_eq_true, decide_eq_true_eq] at hc
      constructor
      · intro h
        cases hg : rowGo seen p.2 with
        | none => rw [hg] at h; cases h
        | some s1 =>
          rw [hg, Option.bind_some] at h
          obtain ⟨a1, a2, a3, a4⟩ := (rowGo_iff p.2 seen s1).1 hg
          obtain ⟨b1, b2, b3, b4, b5⟩ := (rows_iff ps s1 s).1 h
          subst a1
          refine ⟨by rw [b1]; simp, ?_, ?_, List.nodup_append.2 ⟨a3, b4, fun a ha b hb e => ?_⟩, ?_⟩
          · intro q hq
            rcases List.mem_cons.1 hq with rfl | hq
            · exact hc
            · exact b2 q hq
          · intro w hw
            rcases List.mem_append.1 hw with hw | hw
            · exact a2 w hw
            · exact b3 w hw
          · subst e
            exact b5 a hb (by simp [ha])
          · intro w hw
            rcases List.mem_append.1 hw with hw | hw
            · exact a4 w hw
            · exact fun h => b5 w hw (by simp [h])
      · rintro ⟨h1, h2, h3, h4, h5⟩
        obtain ⟨n1, n2, dj⟩ := List.nodup_append.1 h4
        have hg := (rowGo_iff p.2 seen (seen ++ p.2)).2 ⟨rfl, fun w hw => h3 w (by simp [hw]), n1, fun w hw => h5 w (by simp [hw])⟩
        rw [hg, Option.bind_some]
        refine (rows_iff ps _ s).2 ⟨by rw [h1]; simp, fun q hq => h2 q (by simp [hq]), fun w hw => h3 w (List.mem_append_right _ hw), n2, fun w hw h => ?_⟩
        rcases List.mem_append.1 h with h | h
        · exact h5 w (List.mem_append_right _ hw) h
        · exact dj w h w hw rfl
    · rw [if_neg hc, Option.bind_none]
      constructor
      · intro h; cases h
      · rintro ⟨h1, h2, _⟩
        have := h2 p (by simp)
        exact absurd (by simp [this.1, this.2]) hc
theorem yardOk_iff {room : List Int} {rows : List (List Int)} : yardOk room rows = true ↔ inR 1 6 (rows.length : Int) = true ∧ room.length = rows.length ∧ (∀ i (hi : i < rows.length), inR 1 40 (room.getD i 0) = true ∧ (rows[i].length : Int) ≤ room.getD i 0) ∧ (∀ w ∈ rows.flatten, inR 1 9999 w = true) ∧ rows.flatten.Nodup := by
  have hmap : room.length = rows.length → (room.zip rows).map (·.2) = rows := fun h => List.map_snd_zip (by omega)
  constructor
  · intro h
    simp only [yardOk, Bool.and_eq_true, decide_eq_true_eq] at h
    obtain ⟨⟨h1, h2⟩, h3⟩ := h
    obtain ⟨s, hs⟩ := Option.isSome_iff_exists.1 h3
    obtain ⟨_, a2, a3, a4, _⟩ := (rows_iff _ _ _).1 hs
    rw [hmap h2] at a3 a4
    refine ⟨h1, h2, fun i hi => ?_, a3, a4⟩
    have hz : i < (room.zip rows).length := by rw [List.length_zip]; omega
    have := a2 _ (List.getElem_mem hz)
    rw [List.getElem_zip] at this
    rw [getD_get room 0 (by omega)]
    exact this
  · rintro ⟨h1, h2, h3, h4, h5⟩
    have : (rowsGo (room.zip rows)) = some ([] ++ ((room.zip rows).map (·.2)).flatten) := by
      refine (rows_iff _ _ _).2 ⟨rfl, ?_, by rw [hmap h2]; exact h4, by rw [hmap h2]; exact h5, fun w _ h => by cases h⟩
      intro p hp
      obtain ⟨i, hi, rfl⟩ := List.getElem_of_mem hp
      have hi' : i < rows.length := by rw [List.length_zip] at hi; omega
      rw [List.getElem_zip]
      have := h3 i hi'
      rw [getD_get room 0 (by omega)] at this
      exact this
    simp [yardOk, h1, h2, this]
/-- The rows with two of them named. -/
theorem perm_set {α : Type} : ∀ (l : List (List α)) (i : Nat) (hi : i < l.length) (x : List α), (l.set i x).flatten ++ l[i] |>.Perm (l.flatten ++ x)
  | a :: l, 0, _, x => by
    simp only [List.set_cons_zero, List.flatten_cons, List.getElem_cons_zero, List.append_assoc]
    refine (List.perm_append_comm (l₁ := x) (l₂ := l.flatten ++ a)).trans ?_
    rw [List.append_assoc]
    exact (List.perm_append_comm (l₁ := l.flatten) (l₂ := a ++ x)).trans (by
      rw [List.append_assoc]
      exact List.Perm.append_left a (List.perm_append_comm (l₁ := x) (l₂ := l.flatten)))
  | a :: l, i + 1, hi, x => by
    simp only [List.set_cons_succ, List.flatten_cons, List.getElem_cons_succ, List.append_assoc]
    exact List.Perm.append_left a (perm_set l i (by simpa using hi) x)
/-- What a shunt that is done makes of all wagons: the same ones. -/
theorem shunt_perm {rows : List (List Int)} {f t c : Nat} (hf : f < rows.length) (ht : t < rows.length) (hft : f ≠ t) : ((rows.set t (rows[t] ++ rows[f].drop c)).set f (rows[f].take c)).flatten.Perm rows.flatten := by
  have hf' : f < (rows.set t (rows[t] ++ rows[f].drop c)).length := by rw [List.length_set]; exact hf
  have e : (rows.set t (rows[t] ++ rows[f].drop c))[f] = rows[f] := List.getElem_set_ne (Ne.symm hft) _
  have p1 := perm_set (rows.set t (rows[t] ++ rows[f].drop c)) f hf' (rows[f].take c)
  rw [e] at p1
  have p2 := perm_set rows t ht (rows[t] ++ rows[f].drop c)
  -- (A ++ Rf) ~ (S ++ take), (S ++ Rt) ~ (R ++ (Rt ++ drop))
  have p3 : (rows.set t (rows[t] ++ rows[f].drop c)).flatten.Perm (rows.flatten ++ rows[f].drop c) := by
    refine List.perm_append_right_iff rows[t] |>.1 (p2.trans ?_)
    rw [List.append_assoc]
    exact List.Perm.append_left _ List.perm_append_comm
  refine List.perm_append_right_iff rows[f] |>.1 (p1.trans ?_)
  refine (List.Perm.append_right _ p3).trans ?_
  rw [List.append_assoc]
  refine List.Perm.append_left _ ?_
  refine List.perm_append_comm.trans ?_
  rw [List.take_append_drop]
theorem shR_cases (room : List Int) (rows : List (List Int)) (f t m : Int) : (shR room rows f t m).1 = rows ∧ (shR room rows f t m).2 ≠ 0 ∨ ∃ (f' t' m' : Nat) (hf : f' < rows.length) (ht : t' < rows.length), f = f' ∧ t = t' ∧ m = m' ∧ f' ≠ t' ∧ 1 ≤ m' ∧ m' ≤ rows[f'].length ∧ rows[t'].length + m' ≤ room.getD t' 0 ∧ (shR room rows f t m).1 = (rows.set t' (rows[t'] ++ rows[f'].drop (rows[f'].length - m'))).set f' (rows[f'].take (rows[f'].length - m')) ∧ (shR room rows f t m).2 = 0 := by
  by_cases hok : shOk rows.length f t m = true
  · have h := hok
    simp only [shOk, Bool.and_eq_true, Bool.not_eq_true', decide_eq_false_iff_not, decide_eq_true_eq] at h
    obtain ⟨⟨⟨h1, h2⟩, h3⟩, h4⟩ := h
    have h1 := inR_iff.1 h1
    have h2 := inR_iff.1 h2
    obtain ⟨f, rfl⟩ : ∃ n : Nat, f = n := ⟨f.toNat, by omega⟩
    obtain ⟨t, rfl⟩ : ∃ n : Nat, t = n := ⟨t.toNat, by omega⟩
    obtain ⟨m, rfl⟩ : ∃ n : Nat, m = n := ⟨m.toNat, by omega⟩
    have hf : f < rows.length := by omega
    have ht : t < rows.length := by omega
    have gf : rows.getD f [] = rows[f] := getD_get rows [] hf
    have gt : rows.getD t [] = rows[t] := getD_get rows [] ht
    by_cases c1 : ((rows.getD f []).length : Int) < m
    · exact .inl (by rw [shR_few hok c1]; exact ⟨rfl, show (2 : Int) ≠ 0 by omega⟩)
    · by_cases c2 : room.getD t 0 < (rows.getD t []).length + (m : Int)
      · exact .inl (by rw [shR_full hok c1 c2]; exact ⟨rfl, show (3 : Int) ≠ 0 by omega⟩)
      · refine .inr ⟨f, t, m, hf, ht, rfl, rfl, rfl, by omega, by omega, by rw [gf] at c1; omega, by rw [gt] at c2; omega, ?_⟩
        rw [shR_done hok c1 c2, gf, gt]
        exact ⟨rfl, rfl⟩
  · exact .inl (by rw [shR_bad (by simpa using hok)]; exact ⟨rfl, show (1 : Int) ≠ 0 by omega⟩)
theorem shR_len (room : List Int) (rows : List (List Int)) (f t m : Int) : (shR room rows f t m).1.length = rows.length := by
  rcases shR_cases room rows f t m with h | ⟨_, _, _, _, _, _, _, _, _, _, _, _, h, _⟩
  · rw [h.1]
  · rw [h, List.length_set, List.length_set]
theorem shR_perm (room : List Int) (rows : List (List Int)) (f t m : Int) : (shR room rows f t m).1.flatten.Perm rows.flatten := by
  rcases shR_cases room rows f t m with h | ⟨f', t', m', hf, ht, _, _, _, hne, _, _, _, h, _⟩
  · rw [h.1]
  · rw [h]; exact shunt_perm hf ht hne
/-- A shunt keeps sidings right. -/
theorem shR_ok {room : List Int} {rows : List (List Int)} {f t m : Int} (h : yardOk room rows = true) : yardOk room (shR room rows f t m).1 = true := by
  have hp := shR_perm room rows f t m
  obtain ⟨h1, h2, h3, h4, h5⟩ := yardOk_iff.1 h
  refine yardOk_iff.2 ⟨by rw [shR_len]; exact h1, by rw [shR_len]; exact h2, fun i hi => ?_, fun w hw => h4 w (hp.mem_iff.1 hw), hp.nodup_iff.2 h5⟩
  have hi' : i < rows.length := by rw [shR_len] at hi; exact hi
  refine ⟨(h3 i hi').1, ?_⟩
  rcases shR_cases room rows f t m with h | ⟨f', t', m', hf, ht, _, _, _, hne, _, hm, hr, h, _⟩
  · simp only [h.1]; exact (h3 i hi').2
  · simp only [h]
    by_cases e1 : f' = i
    · subst e1
      rw [List.getElem_set_self]
      have := (h3 f' hf).2
      rw [List.length_take]; omega
    · rw [List.getElem_set_ne e1]
      by_cases e2 : t' = i
      · subst e2
        rw [List.getElem_set_self, List.length_append, List.length_drop]
        omega
      · rw [List.getElem_set_ne e2]
        exact (h3 i hi').2
theorem yard_row {room : List Int} {rows : List (List Int)} (h : yardOk room rows = true) {i : Nat} (hi : i < rows.length) : rows[i].length ≤ 40 := by
  obtain ⟨_, _, h3, _⟩ := yardOk_iff.1 h
  obtain ⟨h4, h5⟩ := h3 i hi
  have := inR_iff.1 h4
  omega
end Go.Proofs.Ytiajbefljkikiaa.AX
