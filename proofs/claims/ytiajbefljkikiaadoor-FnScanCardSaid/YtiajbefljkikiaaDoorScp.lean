/- Splitting bytes at the flags, and what a scan finds: plain. No condition; nothing of the program. -/
import Derived.Test.YtiajbefljkikiaaDoorDcx
namespace Go.Proofs.YtiajbefljkikiaaDoor.AX
open Go
set_option linter.unusedSimpArgs false
set_option linter.unusedVariables false
/-- The pieces between the flags. -/
def spl : List Int → List (List Int)
  | [] => [[]]
  | x :: xs => if x = 126 then [] :: spl xs else match spl xs with
    | p :: ps => (x :: p) :: ps
    | [] => [[x]]
theorem spl_ne : ∀ xs : List Int, spl xs ≠ []
  | [] => by simp [spl]
  | x :: xs => by
    unfold spl
    split
    · simp
    · split <;> simp
theorem spl_len : ∀ xs : List Int, (spl xs).length = xs.count 126 + 1
  | [] => rfl
  | x :: xs => by
    have ih := spl_len xs
    unfold spl
    by_cases hx : x = 126
    · subst hx
      rw [if_pos rfl, List.length_cons, ih, List.count_cons_self]
    · rw [if_neg hx, List.count_cons_of_ne (fun e => hx e)]
      cases hs : spl xs with
      | nil => exact absurd hs (spl_ne xs)
      | cons p ps => rw [hs] at ih; simpa using ih
theorem spl_no : ∀ {xs : List Int}, (∀ x ∈ xs, x ≠ 126) → spl xs = [xs]
  | [], _ => rfl
  | x :: xs, h => by
    unfold spl
    rw [if_neg (h x (List.mem_cons_self ..)), spl_no (fun y hy => h y (List.mem_cons_of_mem _ hy))]
theorem spl_cut : ∀ {p r : List Int}, (∀ x ∈ p, x ≠ 126) → spl (p ++ 126 :: r) = p :: spl r
  | [], r, _ => by simp [spl]
  | x :: p, r, h => by
    rw [List.cons_append, spl, if_neg (h x (List.mem_cons_self ..)), spl_cut (fun y hy => h y (List.mem_cons_of_mem _ hy))]
/-- What is still to be split from a place on. -/
def splF (xs : List Int) (f : Nat) : List (List Int) := if f ≤ xs.length then spl (xs.drop f) else []
theorem splF_step {xs : List Int} {f i : Nat} (h1 : f ≤ i) (h2 : i ≤ xs.length) (h3 : ∀ j, f ≤ j → j < i → xs.getD j 0 ≠ 126) (h4 : i = xs.length ∨ xs.getD i 0 = 126) : splF xs f = (xs.drop f).take (i - f) :: splF xs (i + 1) := by
  have hno : ∀ x ∈ (xs.drop f).take (i - f), x ≠ 126 := by
    intro x hx
    obtain ⟨k, hk, rfl⟩ := List.getElem_of_mem hx
    rw [List.length_take, List.length_drop] at hk
    rw [List.getElem_take, List.getElem_drop]
    have := h3 (f + k) (by omega) (by omega)
    rwa [List.getD_eq_getElem?_getD, List.getElem?_eq_getElem (by omega), Option.getD_some] at this
  unfold splF
  rw [if_pos (by omega)]
  by_cases hi : i = xs.length
  · rw [if_neg (by omega)]
    have e : (xs.drop f).take (i - f) = xs.drop f := List.take_of_length_le (by rw [List.length_drop]; omega)
    rw [e] at hno ⊢
    exact spl_no hno
  · rcases h4 with h4 | h4
    · exact absurd h4 hi
    rw [if_pos (by omega)]
    have hdi : xs.drop i = 126 :: xs.drop (i + 1) := by
      rw [List.getD_eq_getElem?_getD, List.getElem?_eq_getElem (by omega), Option.getD_some] at h4
      rw [List.drop_eq_getElem_cons (by omega), h4]
    have e := (List.take_append_drop (i - f) (xs.drop f)).symm
    rw [List.drop_drop, show f + (i - f) = i by omega, hdi] at e
    conv => lhs; rw [e]
    rw [spl_cut hno]
theorem splF_end {xs : List Int} {f : Nat} (h : xs.length < f) : splF xs f = [] := if_neg (by omega)
theorem splF_zero (xs : List Int) : splF xs 0 = spl xs := by rw [splF, if_pos (Nat.zero_le _), List.drop_zero]
/-- What a piece adds to what is found. -/
def scS (a : List Tel × Int) (p : List Int) : List Tel × Int := if p = [] then a else
  if (decI ((126 : Int) :: p ++ [126])).2 = true then (a.1 ++ [(decI ((126 : Int) :: p ++ [126])).1], a.2) else (a.1, a.2 + 1)
def scL (xs : List Int) : List Tel × Int := (spl xs).foldl scS ([], 0)
def scR (xs : List Int) : List Tel × Int := if xs.length ≤ 3000 then scL xs else ([], -1)
theorem scS_le {a : List Tel × Int} {p : List Int} {n : Int} (h1 : (a.1.length : Int) ≤ n) (h2 : 0 ≤ a.2 ∧ a.2 ≤ n) : ((scS a p).1.length : Int) ≤ n + 1 ∧ 0 ≤ (scS a p).2 ∧ (scS a p).2 ≤ n + 1 := by
  unfold scS
  split
  · exact ⟨by omega, by omega, by omega⟩
  · split
    · refine ⟨?_, h2.1, by simp only; omega⟩
      simp only [List.length_append, List.length_singleton]
      omega
    · exact ⟨by simp only; omega, by simp only; omega, by simp only; omega⟩
/-! ### Counting and finding a byte, over the numbers -/
theorem foldl_loop {β : Type} (f : β → UInt8 → β) (s : ByteArray) : ∀ (i j : Nat) (b : β), j + i = s.size →
    _root_.Id.run (ByteArray.foldlM.loop (m := _root_.Id) (fun x y => pure (f x y)) s s.size (Nat.le_refl _) i j b) = (s.data.toList.drop j).foldl f b
  | 0, j, b, h => by
    unfold ByteArray.foldlM.loop
    have hs : s.size = s.data.toList.length := by rw [Array.length_toList]; rfl
    rw [dif_neg (by omega), List.drop_of_length_le (by omega)]
    rfl
  | i + 1, j, b, h => by
    unfold ByteArray.foldlM.loop
    have hj : j < s.size := by omega
    have hl : j < s.data.toList.length := by rw [Array.length_toList]; exact hj
    have hd : s.data.toList.drop j = s[j] :: s.data.toList.drop (j + 1) := by
      rw [List.drop_eq_getElem_cons hl]
      rfl
    rw [dif_pos hj, hd, List.foldl_cons, ← foldl_loop f s i (j + 1) (f b s[j]) (by omega)]
    rfl
theorem foldl_data {β : Type} (f : β → UInt8 → β) (b : β) (s : ByteArray) : s.foldl f b = s.data.toList.foldl f b := by
  have h := foldl_loop f s s.size 0 b (by omega)
  rw [List.drop_zero] at h
  rw [← h]
  unfold ByteArray.foldl ByteArray.foldlM
  simp only [Nat.le_refl, dif_pos, Nat.sub_zero]
theorem strOf_data (xs : List Int) : (strOfNums xs).data.toList = xs.map fun n => UInt8.ofNat n.toNat := by
  exact strOfNums_data xs
theorem u8_eq {x : Int} (h : isB x) : (UInt8.ofNat x.toNat == UInt8.ofNat 126) = decide (x = 126) := by
  obtain ⟨h1, h2⟩ := h
  obtain ⟨n, rfl⟩ := Int.eq_ofNat_of_zero_le h1
  have hn : n < 256 := by omega
  rw [Bool.eq_iff_iff, beq_iff_eq, decide_eq_true_iff]
  constructor
  · intro e
    have := congrArg UInt8.toNat e
    simp at this
    omega
  · intro e
    have : n = 126 := by omega
    subst this
    rfl
theorem bsea_cnt {xs : List Int} (h : ∀ x ∈ xs, isB x) : bsea true (strOfNums xs) (UInt8.ofNat 126) = (xs.count 126 : Int) := by
  unfold bsea
  rw [if_pos rfl, foldl_data, strOf_data, List.foldl_map]
  have key : ∀ (xs : List Int) (n : Int), (∀ x ∈ xs, isB x) → xs.foldl (fun (n : Int) x => if (UInt8.ofNat x.toNat == UInt8.ofNat 126) = true then n + 1 else n) n = n + (xs.count 126 : Nat) := by
    intro xs
    induction xs with
    | nil => intro n _; simp
    | cons x xs ih =>
      intro n h
      rw [List.foldl_cons, u8_eq (h x (List.mem_cons_self ..)), ih _ (fun y hy => h y (List.mem_cons_of_mem _ hy)), List.count_cons]
      by_cases hx : x = 126
      · subst hx
        simp
        omega
      · simp [hx]
  rw [key xs _ h]
  simp
/-- The first place of a flag. -/
def fst7 : List Int → Option Nat
  | [] => none
  | x :: xs => if x = 126 then some 0 else (fst7 xs).map (· + 1)
theorem fst7_some : ∀ {xs : List Int} {m : Nat}, fst7 xs = some m → m < xs.length ∧ xs.getD m 0 = 126 ∧ ∀ j, j < m → xs.getD j 0 ≠ 126
  | [], m, h => by cases h
  | x :: xs, m, h => by
    unfold fst7 at h
    split at h
    · rename_i hx
      injection h with h
      subst h hx
      exact ⟨by simp, rfl, fun j hj => by omega⟩
    · rename_i hx
      rw [Option.map_eq_some_iff] at h
      obtain ⟨k, hk, rfl⟩ := h
      obtain ⟨h1, h2, h3⟩ := fst7_some hk
      refine ⟨by simpa using h1, by simpa using h2, fun j hj => ?_⟩
      cases j with
      | zero => simpa using hx
      | succ j => simpa using h3 j (by omega)
theorem fst7_none : ∀ {xs : List Int}, fst7 xs = none → xs.count 126 = 0
  | [], _ => rfl
  | x :: xs, h => by
    unfold fst7 at h
    split at h
    · cases h
    · rename_i hx
      rw [Option.map_eq_none_iff] at h
      rw [List.count_cons_of_ne (fun e => hx e)]
      exact fst7_none h
theorem bsea_fst {xs : List Int} (h : ∀ x ∈ xs, isB x) : bsea false (strOfNums xs) (UInt8.ofNat 126) = match fst7 xs with | some m => (m : Int) | none => -1 := by
  have hsz : (strOfNums xs).size = xs.length := by
    have := congrArg List.length (strOf_data xs)
    rw [List.length_map, Array.length_toList] at this
    exact this
  have hget : ∀ i, i < xs.length → ((strOfNums xs)[i]! == UInt8.ofNat 126) = decide (xs.getD i 0 = 126) := by
    intro i hi
    have hi' : i < (strOfNums xs).size := by omega
    have e : (strOfNums xs)[i]! = UInt8.ofNat (xs.getD i 0).toNat := by
      rw [getElem!_pos (strOfNums xs) i hi']
      have e1 : (strOfNums xs)[i] = (strOfNums xs).data.toList[i]'(by rw [Array.length_toList]; exact hi') := rfl
      rw [e1]
      simp only [strOf_data, List.getElem_map]
      rw [getD_get xs 0 hi]
    rw [e]
    exact u8_eq (h _ (by rw [getD_get xs 0 hi]; exact List.getElem_mem _))
  unfold bsea
  simp only [Bool.false_eq_true, if_false]
  cases hf : fst7 xs with
  | some m =>
    obtain ⟨h1, h2, h3⟩ := fst7_some hf
    have : (List.range (strOfNums xs).size).find? (fun i => (strOfNums xs)[i]! == UInt8.ofNat 126) = some m := by
      rw [List.find?_range_eq_some]
      refine ⟨by rw [hget m h1]; simpa using h2, by simpa [hsz] using h1, fun j hj => ?_⟩
      rw [hget j (by omega)]
      simpa using h3 j hj
    rw [this]
  | none =>
    have : (List.range (strOfNums xs).size).find? (fun i => (strOfNums xs)[i]! == UInt8.ofNat 126) = none := by
      rw [List.find?_eq_none]
      intro i hi
      rw [List.mem_range, hsz] at hi
      rw [hget i hi]
      have h0 := List.count_eq_zero.1 (fst7_none hf)
      have hm : xs.getD i 0 ∈ xs := by rw [getD_get xs 0 hi]; exact List.getElem_mem _
      simp only [decide_eq_true_iff]
      intro e
      exact h0 (e ▸ hm)
    rw [this]
end Go.Proofs.YtiajbefljkikiaaDoor.AX
