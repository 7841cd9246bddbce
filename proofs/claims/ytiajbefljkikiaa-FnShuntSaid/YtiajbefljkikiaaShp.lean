/- Shunts, plain: undone by their undoing; every wagon in one row. No condition beyond each law's own; nothing of the program. -/
import Derived.Test.YtiajbefljkikiaaYd7
namespace Go.Proofs.Ytiajbefljkikiaa.AX
open Go
set_option maxRecDepth 10000
set_option linter.unusedSimpArgs false
set_option linter.unusedVariables false
theorem shR_undo {room : List Int} {rows : List (List Int)} {f t m : Int} (hy : yardOk room rows = true) (h : (shR room rows f t m).2 = 0) : shR room (shR room rows f t m).1 t f m = (rows, 0) ∧ (shR room rows f t m).1 ≠ rows := by
  rcases shR_cases room rows f t m with ⟨_, hc⟩ | ⟨f', t', m', hf, ht, rfl, rfl, rfl, hne, hm1, hm2, hm3, e, _⟩
  · exact absurd h hc
  obtain ⟨_, _, hr, _, _⟩ := yardOk_iff.1 hy
  have hrf := (hr f' hf).2
  rw [e]
  obtain ⟨c, hc⟩ : ∃ c, c = rows[f'].length - m' := ⟨_, rfl⟩
  rw [← hc]
  obtain ⟨rs, hrs⟩ : ∃ rs, rs = (rows.set t' (rows[t'] ++ rows[f'].drop c)).set f' (rows[f'].take c) := ⟨_, rfl⟩
  have hl : rs.length = rows.length := by rw [hrs, List.length_set, List.length_set]
  have gt : rs.getD t' [] = rows[t'] ++ rows[f'].drop c := by
    rw [getD_get rs [] (by omega)]
    simp only [hrs]
    rw [List.getElem_set_ne hne, List.getElem_set_self]
  have gf : rs.getD f' [] = rows[f'].take c := by
    rw [getD_get rs [] (by omega)]
    simp only [hrs]
    rw [List.getElem_set_self]
  have ld : (rows[f'].drop c).length = m' := by rw [List.length_drop]; omega
  have lt : (rows[f'].take c).length = c := by rw [List.length_take]; omega
  rw [← hrs]
  constructor
  · have ok : shOk rs.length (t' : Int) (f' : Int) (m' : Int) = true := by
      simp only [shOk, Bool.and_eq_true, Bool.not_eq_true', decide_eq_false_iff_not, decide_eq_true_eq]
      exact ⟨⟨⟨inR_iff.2 (by omega), inR_iff.2 (by omega)⟩, by omega⟩, by omega⟩
    rw [shR_done ok (by rw [gt, List.length_append, ld]; omega) (by rw [gf, lt]; omega), gt, gf]
    refine Prod.ext ?_ rfl
    simp only []
    rw [List.length_append, ld, Nat.add_sub_cancel]
    rw [show (rows[t'] ++ rows[f'].drop c).drop rows[t'].length = rows[f'].drop c by rw [List.drop_append, List.drop_length, List.nil_append, Nat.sub_self, List.drop_zero], show (rows[t'] ++ rows[f'].drop c).take rows[t'].length = rows[t'] by rw [List.take_append_of_le_length (Nat.le_refl _), List.take_length], List.take_append_drop]
    refine List.ext_getElem (by rw [List.length_set, List.length_set, hl]) fun i h1 h2 => ?_
    rw [List.getElem_set]
    split
    · rename_i e1; subst e1; rfl
    · rw [List.getElem_set]
      split
      · rename_i e1; subst e1; rfl
      · simp only [hrs]
        rw [List.getElem_set_ne (by assumption), List.getElem_set_ne (by assumption)]
  · intro he
    have : (rs.getD t' []).length = (rows.getD t' []).length := by rw [he]
    rw [gt, getD_get rows [] ht, List.length_append, ld] at this
    omega
theorem shR_same {room : List Int} {rows : List (List Int)} {f t m : Int} (h : (shR room rows f t m).2 ≠ 0) : (shR room rows f t m).1 = rows := by
  rcases shR_cases room rows f t m with ⟨hc, _⟩ | ⟨_, _, _, _, _, _, _, _, _, _, _, _, _, hc⟩
  · exact hc
  · exact absurd hc h
/-- In how many rows a wagon stands. -/
def cntW (w : Int) : List (List Int) → Nat
  | [] => 0
  | r :: rs => (if r.contains w = true then 1 else 0) + cntW w rs
theorem cntW_zero {w : Int} : ∀ {rs : List (List Int)}, w ∉ rs.flatten → cntW w rs = 0
  | [], _ => rfl
  | r :: rs, h => by
    simp only [List.flatten_cons, List.mem_append, not_or] at h
    rw [cntW, cntW_zero h.2, if_neg (by simpa using h.1)]
theorem cntW_one {w : Int} : ∀ {rs : List (List Int)}, rs.flatten.Nodup → w ∈ rs.flatten → cntW w rs = 1
  | [], _, h => by cases h
  | r :: rs, hn, h => by
    simp only [List.flatten_cons, List.mem_append] at h
    rw [List.flatten_cons, List.nodup_append] at hn
    obtain ⟨_, h2, h3⟩ := hn
    rw [cntW]
    by_cases c : w ∈ r
    · rw [if_pos (by simpa using c), cntW_zero (fun h' => h3 w c w h' rfl)]
    · rw [if_neg (by simpa using c), cntW_one h2 (h.resolve_left c)]
theorem cntW_app (w : Int) (rs : List (List Int)) (r : List Int) : cntW w (rs ++ [r]) = cntW w rs + if r.contains w = true then 1 else 0 := by
  induction rs with
  | nil => simp only [List.nil_append, cntW]; omega
  | cons q rs ih => simp only [List.cons_append, cntW, ih]; omega
theorem cntW_take {w : Int} {rs : List (List Int)} {j : Nat} (hj : j < rs.length) : cntW w (rs.take (j + 1)) = cntW w (rs.take j) + if rs[j].contains w = true then 1 else 0 := by
  rw [take_snoc' rs hj, cntW_app]
theorem flat_take {rs : List (List Int)} {j : Nat} (hj : j < rs.length) : (rs.take (j + 1)).flatten.length = (rs.take j).flatten.length + rs[j].length := by
  rw [take_snoc' rs hj, List.flatten_append, List.length_append]
  simp
theorem plGo_perm (room : List Int) (rows : List (List Int)) (ms : List Sh) : (plGo room rows ms).1.flatten.Perm rows.flatten := by
  have key : ∀ (ms : List Sh) (s : List (List Int) × List Int), (ms.foldl (plStep room) s).1.flatten.Perm s.1.flatten := by
    intro ms
    induction ms with
    | nil => intro s; exact List.Perm.refl _
    | cons m ms ih =>
      intro s
      rw [List.foldl_cons]
      exact (ih _).trans (shR_perm room s.1 m.1 m.2.1 m.2.2)
  exact key ms (rows, [])
theorem plGo_len (room : List Int) (rows : List (List Int)) (ms : List Sh) : (plGo room rows ms).1.length = rows.length ∧ (plGo room rows ms).2.length = ms.length := by
  have key : ∀ (ms : List Sh) (s : List (List Int) × List Int), (ms.foldl (plStep room) s).1.length = s.1.length ∧ (ms.foldl (plStep room) s).2.length = s.2.length + ms.length := by
    intro ms
    induction ms with
    | nil => intro s; exact ⟨rfl, rfl⟩
    | cons m ms ih =>
      intro s
      rw [List.foldl_cons]
      obtain ⟨h1, h2⟩ := ih (plStep room s m)
      refine ⟨h1.trans (shR_len room s.1 m.1 m.2.1 m.2.2), ?_⟩
      rw [h2, plStep, List.length_append, List.length_cons, List.length_cons, List.length_nil]
      omega
  have := key ms (rows, [])
  exact ⟨this.1, by have h2 := this.2; simp only [List.length_nil, Nat.zero_add] at h2; exact h2⟩
end Go.Proofs.Ytiajbefljkikiaa.AX
