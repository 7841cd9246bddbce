/- The count of axles, plain: what is sent twice counts once; one more that adds none. No condition beyond each law's own; nothing of the program. -/
import Derived.Test.YtiajbefljkikiaaAxl
namespace Go.Proofs.Ytiajbefljkikiaa.AX
open Go
set_option maxRecDepth 10000
set_option linter.unusedSimpArgs false
set_option linter.unusedVariables false
/-- A telegram as it is drawn. -/
def drT (t : Tel) : Prop := 0 ≤ t.1 ∧ t.1 ≤ 255 ∧ 0 ≤ t.2.1 ∧ t.2.1 ≤ 15 ∧ t.2.2.length ≤ 1 ∧ ∀ x ∈ t.2.2, 0 ≤ x ∧ x ≤ 255
def dbl : List Tel → List Tel
  | [] => []
  | t :: ts => t :: t :: dbl ts
theorem dbl_len : ∀ ts : List Tel, (dbl ts).length = 2 * ts.length
  | [] => rfl
  | t :: ts => by simp only [dbl, List.length_cons, dbl_len ts]; omega
theorem dbl_app : ∀ (ts us : List Tel), dbl (ts ++ us) = dbl ts ++ dbl us
  | [], us => rfl
  | t :: ts, us => by simp only [List.cons_append, dbl, dbl_app ts us]
theorem dbl_ok {ts : List Tel} (h : ∀ t ∈ ts, drT t) : ∀ t ∈ dbl ts, drT t := by
  induction ts with
  | nil => intro t ht; cases ht
  | cons x ts ih =>
    intro t ht
    simp only [dbl, List.mem_cons] at ht
    rcases ht with rfl | rfl | ht
    · exact h _ (by simp)
    · exact h _ (by simp)
    · exact ih (fun y hy => h y (by simp [hy])) t ht
theorem drT_ok {t : Tel} (h : drT t) : okT t = true := by
  obtain ⟨h1, h2, h3, h4, h5, _⟩ := h
  simp [okT, okTel, inR, h1, h2, h3, h4]
  omega
/-- What the count holds on its way. -/
def axI (k : Nat) (s : Int × Int × Nat) : Prop := -1 ≤ s.1 ∧ s.1 ≤ 255 * k ∧ 0 ≤ s.2.1 ∧ s.2.1 ≤ 255
theorem cnt_bd {c kind : Int} {l : List Int} {k : Nat} (h1 : -1 ≤ c) (h2 : c ≤ 255 * k) (hk : k ≤ 1000) (hl : ∀ x ∈ l, 0 ≤ x ∧ x ≤ 255) : -1 ≤ cntR c kind l ∧ cntR c kind l ≤ 255 * (k + 1 : Nat) := by
  have hn : 0 ≤ cntN l ∧ cntN l ≤ 255 := by
    rw [cntN]
    split
    · rename_i h
      have := hl (l.getD 0 0) (by rw [getD_get _ _ h]; exact List.getElem_mem h)
      rw [wrap64 (by omega) (by omega)]
      exact this
    · omega
  rw [cntR]
  generalize cntN l = n at hn
  have hw1 : IntKind.i64.wrap (c + n) = c + n := wrap64 (by omega) (by omega)
  have hw2 : IntKind.i64.wrap (c - n) = c - n := wrap64 (by omega) (by omega)
  rw [cntS, hw1, hw2]
  split
  · omega
  · split
    · omega
    · split
      · split <;> omega
      · omega
theorem axI_step {k : Nat} {s : Int × Int × Nat} {t : Tel} (h : axI k s) (ht : drT t) (hk : k ≤ 1000) : axI (k + 1) (axStep s t) := by
  obtain ⟨h1, h2, h3, h4⟩ := h
  obtain ⟨t1, t2, t3, t4, t5, t6⟩ := ht
  rw [axStep]
  split
  · exact ⟨h1, by show s.1 ≤ _; omega, h3, h4⟩
  · refine ⟨?_, ?_, t1, t2⟩
    · by_cases c : accR s.2.1 t.1 = 2
      · simp only [c, if_true]; exact (cnt_bd (k := k) (by omega) (by omega) hk t6).1
      · simp only [c, if_false]; exact (cnt_bd h1 h2 hk t6).1
    · by_cases c : accR s.2.1 t.1 = 2
      · simp only [c, if_true]; exact (cnt_bd (k := k) (by omega) (by omega) hk t6).2
      · simp only [c, if_false]; exact (cnt_bd h1 h2 hk t6).2
theorem acc_in {last seq : Int} (h1 : 0 ≤ last) (h2 : last ≤ 255) (h3 : 0 ≤ seq) (h4 : seq ≤ 255) : accR last seq = if seq = (last + 1) % 256 then 0 else if seq = last then 1 else 2 := by
  rw [accR_ok (inR_iff.2 ⟨h1, h2⟩) (inR_iff.2 ⟨h3, h4⟩), Int.tmod_eq_emod_of_nonneg (by omega)]
theorem acc_same {s : Int} (h1 : 0 ≤ s) (h2 : s ≤ 255) : accR s s = 1 := by
  rw [acc_in h1 h2 h1 h2, if_neg (by omega), if_pos rfl]
theorem acc_next {s : Int} (h1 : 0 ≤ s) (h2 : s ≤ 255) : accR s ((s + 1) % 256) = 0 := by
  rw [acc_in h1 h2 (by omega) (by omega), if_pos rfl]
/-- Who has been seen last is who came last. -/
theorem ax_last {s : Int × Int × Nat} {t : Tel} (h : 0 ≤ s.2.1 ∧ s.2.1 ≤ 255) (ht : drT t) : (axStep s t).2.1 = t.1 := by
  rw [axStep]
  split
  · rename_i c
    rw [acc_in h.1 h.2 ht.1 ht.2.1] at c
    show s.2.1 = t.1
    split at c
    · cases c
    · split at c
      · omega
      · cases c
  · rfl
theorem ax_dbl {k : Nat} {s : Int × Int × Nat} {t : Tel} {n : Nat} (h : axI k s) (ht : drT t) (hk : k ≤ 1000) :
    axStep (axStep (s.1, s.2.1, n) t) t = ((axStep s t).1, (axStep s t).2.1, n + 1 + ((axStep s t).2.2 - s.2.2)) ∧ s.2.2 ≤ (axStep s t).2.2 ∧ (axStep s t).2.2 ≤ s.2.2 + 1 := by
  have hl := ax_last (s := (s.1, s.2.1, n)) h.2.2 ht
  have e : axStep (axStep (s.1, s.2.1, n) t) t = ((axStep (s.1, s.2.1, n) t).1, (axStep (s.1, s.2.1, n) t).2.1, (axStep (s.1, s.2.1, n) t).2.2 + 1) := by
    generalize axStep (s.1, s.2.1, n) t = q at hl
    rw [axStep, hl, acc_same ht.1 ht.2.1, if_pos rfl]
  rw [e]
  rw [axStep, axStep]
  by_cases c : accR s.2.1 t.1 = 1
  · simp only [c, if_true]
    refine ⟨by congr 2; omega, by omega, by omega⟩
  · simp only [c, if_false]
    refine ⟨by congr 2; omega, by omega, by omega⟩
theorem ax_inv {ts : List Tel} (h : ∀ t ∈ ts, drT t) : ∀ (k : Nat) (s : Int × Int × Nat) (n : Nat), k + ts.length ≤ 1000 → axI k s →
    axI (k + ts.length) (ts.foldl axStep s) ∧ s.2.2 ≤ (ts.foldl axStep s).2.2 ∧ (ts.foldl axStep s).2.2 ≤ s.2.2 + ts.length ∧ (dbl ts).foldl axStep (s.1, s.2.1, n) = ((ts.foldl axStep s).1, (ts.foldl axStep s).2.1, n + ts.length + ((ts.foldl axStep s).2.2 - s.2.2)) := by
  induction ts with
  | nil => intro k s n _ hs; exact ⟨hs, Nat.le_refl _, Nat.le_refl _, by simp [dbl]⟩
  | cons t ts ih =>
    intro k s n hk hs
    simp only [List.length_cons] at hk
    have ht := h t (by simp)
    have h1 := axI_step hs ht (by omega)
    obtain ⟨e, e1, e2⟩ := ax_dbl (n := n) hs ht (by omega)
    obtain ⟨i1, i2, i3, i4⟩ := ih (fun x hx => h x (by simp [hx])) (k + 1) (axStep s t) (n + 1 + ((axStep s t).2.2 - s.2.2)) (by omega) h1
    simp only [List.foldl_cons, List.length_cons, dbl, e]
    refine ⟨by rw [show k + (ts.length + 1) = k + 1 + ts.length by omega]; exact i1, by omega, by omega, ?_⟩
    rw [i4]
    congr 2
    omega
theorem ax_seq {ts : List Tel} (h : ∀ t ∈ ts, drT t) : ∀ s : Int × Int × Nat, 0 ≤ s.2.1 ∧ s.2.1 ≤ 255 → (ts.foldl axStep s).2.1 = (match ts.getLast? with | some t => t.1 | none => s.2.1) := by
  induction ts with
  | nil => intro s _; rfl
  | cons t ts ih =>
    intro s hs
    have ht := h t (by simp)
    have hl := ax_last hs ht
    rw [List.foldl_cons, ih (fun x hx => h x (by simp [hx])) _ (by rw [hl]; exact ⟨ht.1, ht.2.1⟩), hl]
    cases ts with
    | nil => rfl
    | cons a b => rw [List.getLast?_cons_cons]; cases he : (a :: b).getLast? with
      | none => simp at he
      | some x => rfl
theorem axR_dr {ts : List Tel} (h : ∀ t ∈ ts, drT t) (hl : ts.length ≤ 200) : axR ts = ((axGo ts).1, ((axGo ts).2.2 : Int)) := by
  rw [axR, if_pos ⟨hl, List.all_eq_true.2 fun t ht => drT_ok (h t ht)⟩]
theorem ax_law {ts : List Tel} (h : ∀ t ∈ ts, drT t) (hl : ts.length ≤ 20) : ∃ (c : Int) (n : Nat), axR ts = (c, (n : Int)) ∧ -1 ≤ c ∧ c ≤ 5100 ∧ n ≤ ts.length ∧ axR (dbl ts) = (c, ((n + ts.length : Nat) : Int)) ∧
    ∀ q, q = (match ts.getLast? with | some t => (t.1 + 1) % 256 | none => 0) → 0 ≤ q ∧ q ≤ 255 ∧ axR (ts ++ [(q, 1, [])]) = (c, (n : Int)) ∧ (axR (ts ++ [(q, 3, [])])).1 = 0 := by
  obtain ⟨i1, i2, i3, i4⟩ := ax_inv h 0 (0, 255, 0) 0 (by omega) ⟨by simp, by simp, by simp, by simp⟩
  have hsq := ax_seq h (0, 255, 0) (by simp)
  have hgo : axGo ts = ts.foldl axStep (0, 255, 0) := rfl
  rw [← hgo] at i1 i2 i3 i4 hsq
  have hd : axGo (dbl ts) = (dbl ts).foldl axStep (0, 255, 0) := rfl
  simp only [] at i4 i3 hsq
  rw [← hd] at i4
  refine ⟨(axGo ts).1, (axGo ts).2.2, axR_dr h (by omega), i1.1, by have := i1.2.1; omega, by omega, ?_, fun q hq => ?_⟩
  · rw [axR_dr (dbl_ok h) (by rw [dbl_len]; omega), i4]
    refine Prod.ext rfl ?_
    show (((0 + ts.length + ((axGo ts).2.2 - 0) : Nat) : Int)) = _
    congr 1
    omega
  · have hq' : 0 ≤ q ∧ q ≤ 255 ∧ q = ((axGo ts).2.1 + 1) % 256 := by
      rw [hsq]
      cases hg : ts.getLast? with
      | none => rw [hg] at hq; simp only [] at hq ⊢; omega
      | some t => rw [hg] at hq; simp only [] at hq ⊢; omega
    obtain ⟨q1, q2, q3⟩ := hq'
    have hacc : accR (axGo ts).2.1 q = 0 := by rw [q3]; exact acc_next i1.2.2.1 i1.2.2.2
    have hm : ∀ kind : Int, 0 ≤ kind → kind ≤ 15 → ∀ t ∈ ts ++ [((q, kind, []) : Tel)], drT t := fun kind h0 h1 t ht => by
      rcases List.mem_append.1 ht with ht | ht
      · exact h t ht
      · simp only [List.mem_singleton] at ht
        subst ht
        exact ⟨q1, q2, h0, h1, by simp, fun x hx => by cases hx⟩
    have hst : ∀ kind : Int, axGo (ts ++ [((q, kind, []) : Tel)]) = (cntR (axGo ts).1 kind [], q, (axGo ts).2.2) := fun kind => by
      have : axGo (ts ++ [((q, kind, []) : Tel)]) = axStep (axGo ts) (q, kind, []) := by rw [axGo, List.foldl_append]; rfl
      rw [this, axStep]
      simp only [hacc]
      rfl
    refine ⟨q1, q2, ?_, ?_⟩
    · rw [axR_dr (hm 1 (by omega) (by omega)) (by simp; omega), hst]
      have hw : IntKind.i64.wrap ((axGo ts).1 + 0) = (axGo ts).1 + 0 := by have := i1.1; have := i1.2.1; exact wrap64 (by omega) (by omega)
      have : cntR (axGo ts).1 1 [] = (axGo ts).1 := by
        rw [cntR, cntN, if_neg (by simp), cntS, if_neg (by omega), hw]
        split <;> simp
      rw [this]
    · rw [axR_dr (hm 3 (by omega) (by omega)) (by simp; omega), hst]
      simp [cntR, cntS]
end Go.Proofs.Ytiajbefljkikiaa.AX
