/- Lockings, plain: each op keeps a locking right; ops one behind the other. No condition; nothing of the program. -/
import Derived.Test.YthjphddodooahaaPll
namespace Go.Proofs.Ythjphddodooahaa.AX
open Go
set_option maxRecDepth 10000
set_option linter.unusedSimpArgs false
set_option linter.unusedVariables false
theorem lkOk_iff {under : List Int} {b : Int} {routes : List Rt} {pos : List Int} {set tk : List Bool} : lkOk under b routes pos set tk = true ↔ plOk under b routes = true ∧ pos.length = under.length ∧ set.length = routes.length ∧ (tk.length : Int) = b ∧ (∀ i, i < pos.length → inR 0 1 (pos.getD i 0) = true) ∧ ∀ a, a < routes.length → set.getD a false = true → (∀ i, i < (rt routes a).1.length → pos.getD (nd (rt routes a).1 i).1.toNat 0 = (nd (rt routes a).1 i).2) ∧ ∀ j, j < a → set.getD j false = true → agNo (rt routes a) (rt routes j) = true := by
  simp only [lkOk, Bool.and_eq_true, decide_eq_true_eq, allTo_iff, rowOk, Bool.or_eq_true, Bool.not_eq_true', posOk, agRow]
  constructor
  · rintro ⟨h1, h2, h3, h4, h5, h6⟩
    refine ⟨h1, h2, h3, h4, h5, fun a ha hs => ?_⟩
    rcases h6 a ha with h | ⟨h, g⟩
    · rw [hs] at h; cases h
    · refine ⟨h, fun j hj hsj => ?_⟩
      rcases g j hj with h | h
      · rw [hsj] at h; cases h
      · exact h
  · rintro ⟨h1, h2, h3, h4, h5, h6⟩
    refine ⟨h1, h2, h3, h4, h5, fun a ha => ?_⟩
    cases hs : set.getD a false with
    | false => exact .inl rfl
    | true =>
      refine .inr ⟨(h6 a ha hs).1, fun j hj => ?_⟩
      cases hsj : set.getD j false with
      | false => exact .inl rfl
      | true => exact .inr ((h6 a ha hs).2 j hj hsj)
theorem setL {α : Type} {l : List α} {i k : Nat} {x d : α} : (l.set k x).getD i d = if i = k ∧ k < l.length then x else l.getD i d := by
  simp only [List.getD_eq_getElem?_getD, List.getElem?_set]
  by_cases h : k = i
  · subst h
    by_cases h2 : k < l.length
    · simp [h2]
    · simp [h2, List.getElem?_eq_none (Nat.le_of_not_lt h2)]
  · simp [h, Ne.symm h]
theorem nd_mem {l : List Nd} {x : Nd} (h : x ∈ l) : ∃ i, i < l.length ∧ nd l i = x := by
  obtain ⟨i, hi, e⟩ := List.getElem_of_mem h
  exact ⟨i, hi, by rw [nd, getD_get _ _ hi]; exact e⟩
theorem mem_nd {l : List Nd} {i : Nat} (h : i < l.length) : nd l i ∈ l := by rw [nd, getD_get _ _ h]; exact List.getElem_mem h
theorem agNo_iff {a b : Rt} : agNo a b = true ↔ (∀ x ∈ a.2, x ∉ b.2) ∧ ∀ x ∈ a.1, ∀ y ∈ b.1, x.1 = y.1 → x.2 = y.2 := by
  simp only [agNo, agOne, ndAg, Bool.and_eq_true, allTo_iff, Bool.not_eq_true', List.contains_eq_mem, decide_eq_false_iff_not, Bool.and_eq_false_iff, Bool.not_eq_false', decide_eq_true_eq]
  constructor
  · rintro ⟨h1, h2⟩
    refine ⟨fun x hx => ?_, fun x hx y hy e => ?_⟩
    · obtain ⟨i, hi, rfl⟩ := List.getElem_of_mem hx
      have := h1 i hi
      rwa [getD_get _ _ hi] at this
    · obtain ⟨i, hi, rfl⟩ := nd_mem hx
      obtain ⟨j, hj, rfl⟩ := nd_mem hy
      rcases h2 i hi j hj with h | h
      · exact absurd e h
      · exact h
  · rintro ⟨h1, h2⟩
    refine ⟨fun i hi => by rw [getD_get _ _ hi]; exact h1 _ (List.getElem_mem hi), fun i hi j hj => ?_⟩
    by_cases e : (nd a.1 i).1 = (nd b.1 j).1
    · exact .inr (h2 _ (mem_nd hi) _ (mem_nd hj) e)
    · exact .inl e
theorem agNo_symm {a b : Rt} (h : agNo a b = true) : agNo b a = true := by
  rw [agNo_iff] at h ⊢
  exact ⟨fun x hx hx2 => h.1 x hx2 hx, fun x hx y hy e => (h.2 y hy x hx e.symm).symm⟩
theorem setN_get {p : Nat} : ∀ (l : List Nd) (pos : List Int), p < pos.length → (∃ x ∈ l, x.1.toNat = p ∧ (setN pos l).getD p 0 = x.2) ∨ (∀ x ∈ l, x.1.toNat ≠ p) ∧ (setN pos l).getD p 0 = pos.getD p 0
  | [], pos, _ => .inr ⟨by simp, rfl⟩
  | y :: l, pos, hp => by
    have e : setN pos (y :: l) = setN (pos.set y.1.toNat y.2) l := rfl
    rw [e]
    rcases setN_get l (pos.set y.1.toNat y.2) (by rw [List.length_set]; exact hp) with ⟨x, hx, e1, e2⟩ | ⟨h1, h2⟩
    · exact .inl ⟨x, List.mem_cons_of_mem _ hx, e1, e2⟩
    · rw [h2, setL]
      by_cases hy : p = y.1.toNat
      · rw [if_pos ⟨hy, by omega⟩]
        exact .inl ⟨y, List.mem_cons_self .., hy.symm, rfl⟩
      · rw [if_neg (fun h => hy h.1)]
        refine .inr ⟨fun x hx => ?_, rfl⟩
        rcases List.mem_cons.1 hx with rfl | hx
        · exact fun h => hy h.symm
        · exact h1 x hx
theorem nd_ok {n : Nat} {b : Int} {r : Rt} (h : rtOk n b r = true) {i : Nat} (hi : i < r.1.length) : inR 0 1 (nd r.1 i).2 = true ∧ (0 < i → (nd r.1 (i - 1)).1 < (nd r.1 i).1) := by
  simp only [rtOk, Bool.and_eq_true, allTo_iff, ndOk, Bool.not_eq_true', Bool.and_eq_false_iff, decide_eq_false_iff_not] at h
  have := h.1 i hi
  exact ⟨this.2.1, fun h0 => by rcases this.2.2 with h | h <;> omega⟩
theorem nd_lt {n : Nat} {b : Int} {r : Rt} (h : rtOk n b r = true) {i : Nat} : ∀ j, i < j → j < r.1.length → (nd r.1 i).1 < (nd r.1 j).1
  | 0, h0, _ => by omega
  | j + 1, h0, hj => by
    have h1 := (nd_ok h hj).2 (by omega)
    rw [Nat.add_sub_cancel] at h1
    by_cases e : i = j
    · subst e; exact h1
    · have := nd_lt (i := i) h j (by omega) (by omega)
      omega
theorem nd_inj {n : Nat} {b : Int} {r : Rt} (h : rtOk n b r = true) {x y : Nd} (hx : x ∈ r.1) (hy : y ∈ r.1) (e : x.1 = y.1) : x = y := by
  obtain ⟨i, hi, rfl⟩ := nd_mem hx
  obtain ⟨j, hj, rfl⟩ := nd_mem hy
  rcases Nat.lt_trichotomy i j with h1 | h1 | h1
  · have := nd_lt h j h1 hj; omega
  · rw [h1]
  · have := nd_lt h i h1 hi; omega
section
variable {under : List Int} {b : Int} {routes : List Rt} {pos : List Int} {set tk : List Bool}
theorem lk_taken (h : lkOk under b routes pos set tk = true) {tk' : List Bool} (e : tk'.length = tk.length) : lkOk under b routes pos set tk' = true := by
  rw [lkOk_iff] at h ⊢
  rw [e]
  exact h
theorem lk_clear (h : lkOk under b routes pos set tk = true) (k : Nat) : lkOk under b routes pos (set.set k false) tk = true := by
  rw [lkOk_iff] at h ⊢
  obtain ⟨h1, h2, h3, h4, h5, h6⟩ := h
  have sub : ∀ a, (set.set k false).getD a false = true → set.getD a false = true := fun a ha => by
    rw [setL] at ha
    split at ha
    · cases ha
    · exact ha
  exact ⟨h1, h2, by rw [List.length_set]; exact h3, h4, h5, fun a ha hs => ⟨(h6 a ha (sub a hs)).1, fun j hj hsj => (h6 a ha (sub a hs)).2 j hj (sub j hsj)⟩⟩
theorem lk_set (h : lkOk under b routes pos set tk = true) {k : Nat} (hk : k < routes.length) (hag : ∀ j, j < routes.length → set.getD j false = true → agNo (rt routes k) (rt routes j) = true) : lkOk under b routes (setN pos (rt routes k).1) (set.set k true) tk = true := by
  rw [lkOk_iff] at h ⊢
  obtain ⟨h1, h2, h3, h4, h5, h6⟩ := h
  obtain ⟨_, _, _, _, _, hrt⟩ := plOk_get h1
  have sub : ∀ a, (set.set k true).getD a false = true → a ≠ k → set.getD a false = true := fun a ha hn => by
    rw [setL, if_neg (fun h => hn h.1)] at ha
    exact ha
  refine ⟨h1, by rw [setN_len]; exact h2, by rw [List.length_set]; exact h3, h4, fun i hi => ?_, fun a ha hs => ⟨fun i hi => ?_, fun j hj hsj => ?_⟩⟩
  · rw [setN_len] at hi
    rcases setN_get (p := i) (rt routes k).1 pos hi with ⟨x, hx, e1, e2⟩ | ⟨_, e2⟩
    · rw [e2]
      obtain ⟨m, hm, rfl⟩ := nd_mem hx
      exact (nd_ok (hrt k hk) hm).1
    · rw [e2]; exact h5 i hi
  · have b1 := rtOk_nd (hrt a ha) hi
    have hp : (nd (rt routes a).1 i).1.toNat < pos.length := by omega
    rcases setN_get (rt routes k).1 pos hp with ⟨x, hx, e1, e2⟩ | ⟨e1, e2⟩
    · rw [e2]
      have b2 : 0 ≤ x.1 := by
        obtain ⟨m, hm, rfl⟩ := nd_mem hx
        exact (rtOk_nd (hrt k hk) hm).1
      have ex : x.1 = (nd (rt routes a).1 i).1 := by omega
      by_cases hak : a = k
      · subst hak
        rw [nd_inj (hrt a ha) hx (mem_nd hi) ex]
      · exact (agNo_iff.1 (hag a ha (sub a hs hak))).2 x hx _ (mem_nd hi) ex
    · by_cases hak : a = k
      · subst hak
        exact absurd rfl (e1 _ (mem_nd hi))
      · rw [e2]
        exact (h6 a ha (sub a hs hak)).1 i hi
  · by_cases hak : a = k
    · subst hak
      exact hag j (by omega) (sub j hsj (by omega))
    · by_cases hjk : j = k
      · subst hjk
        exact agNo_symm (hag a ha (sub a hs hak))
      · exact (h6 a ha (sub a hs hak)).2 j hj (sub j hsj hjk)
end
/-- An op that keeps a locking right, and of its lengths. -/
def Keeps (opf : List Int → Int → List Rt → Lo → Int → Lo × Int) : Prop := ∀ {under : List Int} {b : Int} {routes : List Rt} {L : Lo} {k : Int}, lkOk under b routes L.1 L.2.1 L.2.2 = true → lkOk under b routes (opf under b routes L k).1.1 (opf under b routes L k).1.2.1 (opf under b routes L k).1.2.2 = true
theorem vaR_keeps : Keeps vaR := by
  intro under b routes L k h
  unfold vaR
  split
  · split
    · exact lk_taken h (List.length_set ..)
    · exact h
  · exact h
theorem occR_keeps : Keeps occR := by
  intro under b routes L k h
  unfold occR
  split
  · split
    · exact h
    · split
      · exact h
      · exact lk_taken h (List.length_set ..)
  · exact h
theorem wiR_keeps : Keeps wiR := by
  intro under b routes L k h
  unfold wiR
  split
  · split
    · split
      · exact lk_clear h _
      · exact h
    · exact h
  · exact h
theorem rqR_keeps : Keeps rqR := by
  intro under b routes L k h
  unfold rqR
  split
  · rename_i hk
    split
    · exact h
    · split
      · rename_i hag
        split
        · split
          · have := inR_iff.1 hk
            refine lk_set h (by omega) (fun j hj hs => ?_)
            have := allTo_iff.1 hag j hj
            rw [agRow, hs] at this
            simpa using this
          · exact h
        · exact h
      · exact h
  · exact h
def lkDo (under : List Int) (b : Int) (routes : List Rt) (L : Lo) (o : Int × Int) : Lo × Int :=
  if o.1 = 0 then rqR under b routes L o.2 else if o.1 = 1 then occR under b routes L o.2 else if o.1 = 2 then vaR under b routes L o.2 else if o.1 = 3 then wiR under b routes L o.2 else (L, 1)
theorem lkDo_ok {under : List Int} {b : Int} {routes : List Rt} {L : Lo} {o : Int × Int} (h : lkOk under b routes L.1 L.2.1 L.2.2 = true) : lkOk under b routes (lkDo under b routes L o).1.1 (lkDo under b routes L o).1.2.1 (lkDo under b routes L o).1.2.2 = true := by
  unfold lkDo
  split
  · exact rqR_keeps h
  · split
    · exact occR_keeps h
    · split
      · exact vaR_keeps h
      · split
        · exact wiR_keeps h
        · exact h
def lkStep (under : List Int) (b : Int) (routes : List Rt) (s : Lo × List Int) (o : Int × Int) : Lo × List Int := ((lkDo under b routes s.1 o).1, s.2 ++ [(lkDo under b routes s.1 o).2])
def bareR (under : List Int) (b : Int) (routes : List Rt) : Lo := (List.replicate under.length 0, List.replicate routes.length false, List.replicate b.toNat false)
def lkGo (under : List Int) (b : Int) (routes : List Rt) (ops : List (Int × Int)) : Lo × List Int := ops.foldl (lkStep under b routes) (bareR under b routes, [])
def pkR (p : List Int × Int × List Rt) (ops : List (Int × Int)) : Lo × List Int := if plOk p.1 p.2.1 p.2.2 = true ∧ ops.length ≤ 300 then lkGo p.1 p.2.1 p.2.2 ops else (([], [], []), [])
theorem repl_getD {α : Type} (n i : Nat) (d : α) : (List.replicate n d).getD i d = d := by
  rw [List.getD_eq_getElem?_getD, List.getElem?_replicate]
  split <;> rfl
theorem bareR_ok {under : List Int} {b : Int} {routes : List Rt} (h : plOk under b routes = true) : lkOk under b routes (bareR under b routes).1 (bareR under b routes).2.1 (bareR under b routes).2.2 = true := by
  have := plOk_get h
  rw [lkOk_iff]
  refine ⟨h, List.length_replicate .., List.length_replicate .., by rw [bareR, List.length_replicate]; omega, fun i hi => by rw [bareR, repl_getD]; rfl, fun a ha hs => ?_⟩
  rw [bareR, repl_getD] at hs
  cases hs
theorem take_snocP {α : Type} (l : List α) {i : Nat} (h : i < l.length) : l.take (i + 1) = l.take i ++ [l[i]] := by
  rw [List.take_add_one, List.getElem?_eq_getElem h]; rfl
theorem lkGo_succ {under : List Int} {b : Int} {routes : List Rt} {ops : List (Int × Int)} {i : Nat} (h : i < ops.length) : lkGo under b routes (ops.take (i + 1)) = lkStep under b routes (lkGo under b routes (ops.take i)) ops[i] := by
  unfold lkGo
  rw [take_snocP ops h, List.foldl_append]
  rfl
theorem lkGo_ok {under : List Int} {b : Int} {routes : List Rt} {ops : List (Int × Int)} (h : plOk under b routes = true) : ∀ i, i ≤ ops.length → lkOk under b routes (lkGo under b routes (ops.take i)).1.1 (lkGo under b routes (ops.take i)).1.2.1 (lkGo under b routes (ops.take i)).1.2.2 = true ∧ (lkGo under b routes (ops.take i)).2.length = i
  | 0, _ => ⟨bareR_ok h, rfl⟩
  | i + 1, hi => by
    obtain ⟨h1, h2⟩ := lkGo_ok (ops := ops) h i (by omega)
    rw [lkGo_succ (i := i) (by omega)]
    exact ⟨lkDo_ok h1, by rw [lkStep, List.length_append, h2]; rfl⟩
end Go.Proofs.Ythjphddodooahaa.AX
