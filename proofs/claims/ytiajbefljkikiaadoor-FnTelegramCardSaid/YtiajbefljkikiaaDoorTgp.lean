/- A telegram sent, bent and scanned: plain. No condition; nothing of the program. -/
import Derived.Test.YtiajbefljkikiaaDoorScx
namespace Go.Proofs.YtiajbefljkikiaaDoor.AX
open Go
set_option linter.unusedSimpArgs false
set_option linter.unusedVariables false
def bodL (t : Tel) : List Int := (loadL t.1 t.2.1 t.2.2).flatMap encB
theorem dec_enc {t : Tel} (h : okT t = true) (hb : ∀ x ∈ t.2.2, isB x) : decI (encR t.1 t.2.1 t.2.2) = (t, true) := (dec_code h hb rfl).1
theorem enc_form {t : Tel} (h : okT t = true) : encR t.1 t.2.1 t.2.2 = (126 : Int) :: bodL t ++ [126] := by
  have h' : okTel t.1 t.2.1 t.2.2.length = true := h
  rw [encR, if_pos h']
  rfl
theorem encB_no {b : Int} : ∀ x ∈ encB b, x ≠ 126 := by
  intro x hx
  unfold encB at hx
  split at hx
  · rename_i hb
    simp only [List.mem_cons, List.not_mem_nil, or_false] at hx
    rcases hx with rfl | rfl
    · omega
    · rcases hb with rfl | rfl
      · exact (by decide +kernel : xorI .u8 126 32 ≠ 126)
      · exact (by decide +kernel : xorI .u8 125 32 ≠ 126)
  · rename_i hb
    simp only [List.mem_singleton] at hx
    subst hx
    exact fun e => hb (.inl e)
theorem bodL_no (t : Tel) : ∀ x ∈ bodL t, x ≠ 126 := by
  intro x hx
  obtain ⟨b, _, hb⟩ := List.mem_flatMap.1 hx
  exact encB_no x hb
theorem encB_ge (b : Int) : 1 ≤ (encB b).length := by unfold encB; split <;> simp
theorem flat_ge (L : List Int) : L.length ≤ (L.flatMap encB).length := by
  induction L with
  | nil => simp
  | cons b L ih =>
    rw [List.flatMap_cons, List.length_append, List.length_cons]
    have := encB_ge b
    omega
theorem bodL_len (t : Tel) : 4 ≤ (bodL t).length := by
  have := flat_ge (loadL t.1 t.2.1 t.2.2)
  rw [loadL_len] at this
  unfold bodL
  omega
theorem spl_flag (xs : List Int) : spl (126 :: xs) = [] :: spl xs := by rw [spl, if_pos rfl]
theorem spl_sent {t : Tel} (r : List Int) : spl ((126 : Int) :: bodL t ++ 126 :: r) = [] :: bodL t :: spl r := by
  rw [List.cons_append, spl_flag, spl_cut (bodL_no t)]
theorem bodL_ne (t : Tel) : bodL t ≠ [] := fun e => by have := bodL_len t; rw [e] at this; simp at this
theorem scS_sent {t : Tel} (h : okT t = true) (hb : ∀ x ∈ t.2.2, isB x) (a : List Tel × Int) : scS a (bodL t) = (a.1 ++ [t], a.2) := by
  have e := dec_enc h hb
  rw [enc_form h] at e
  have := scS_yes (a := a) (bodL_ne t) (by rw [e])
  rw [this, e]
theorem sc_one {t : Tel} (h : okT t = true) (hb : ∀ x ∈ t.2.2, isB x) : scR (([126, 126] ++ encR t.1 t.2.1 t.2.2) ++ [126]) = ([t], 0) := by
  have hl := encR_len t.1 t.2.1 t.2.2
  rw [scR, if_pos (by simp only [List.length_append, List.length_cons, List.length_nil]; omega), scL, enc_form h]
  have e : ([126, 126] ++ ((126 : Int) :: bodL t ++ [126])) ++ [126] = 126 :: 126 :: ((126 : Int) :: bodL t ++ 126 :: [126]) := by simp
  rw [e, spl_flag, spl_flag, spl_sent]
  simp only [List.foldl_cons, scS_nil, scS_sent h hb]
  rfl
theorem xor_ne {a c : Int} (ha : isB a) (h1 : 1 ≤ c) (h2 : c ≤ 255) : isB (xorI .u8 a c) ∧ xorI .u8 a c ≠ a := by
  refine ⟨wrap_isB _, fun e => ?_⟩
  obtain ⟨n, rfl⟩ := Int.eq_ofNat_of_zero_le ha.1
  obtain ⟨m, rfl⟩ := Int.eq_ofNat_of_zero_le (by omega : 0 ≤ c)
  have hn : n < 256 := by have := ha.2; omega
  have hm : m < 256 := by omega
  have hx : n ^^^ m < 256 := Nat.xor_lt_two_pow (n := 8) (by omega) (by omega)
  have e1 : (BitVec.ofInt 8 (n : Int) ^^^ BitVec.ofInt 8 (m : Int)).toNat = n ^^^ m := by
    rw [BitVec.ofInt_natCast, BitVec.ofInt_natCast, BitVec.toNat_xor, BitVec.toNat_ofNat, BitVec.toNat_ofNat, Nat.mod_eq_of_lt (by omega), Nat.mod_eq_of_lt (by omega)]
  have e2 : xorI .u8 (n : Int) (m : Int) = ((n ^^^ m : Nat) : Int) := by
    show IntKind.u8.wrap ((BitVec.ofInt 8 (n : Int) ^^^ BitVec.ofInt 8 (m : Int)).toNat : Int) = _
    rw [e1, wrap8, Nat.mod_eq_of_lt hx]
  rw [e2] at e
  have e3 : n ^^^ m = n := by omega
  have e4 : n ^^^ (n ^^^ m) = m := by rw [← Nat.xor_assoc, Nat.xor_self, Nat.zero_xor]
  rw [e3, Nat.xor_self] at e4
  omega
theorem decI_eq (d : List Int) : ∃ b, b = unI ((d.drop 1).take (d.length - 2)) ∧ decI d = if (6 ≤ d.length ∧ d.length ≤ 130) ∧ 4 ≤ b.length ∧ okT (telL b) = true ∧ encR (telL b).1 (telL b).2.1 (telL b).2.2 = d then (telL b, true) else (telZ, false) := ⟨_, rfl, rfl⟩
theorem dec_inv {d : List Int} (h : (decI d).2 = true) : encR (decI d).1.1 (decI d).1.2.1 (decI d).1.2.2 = d := by
  obtain ⟨b, hb, e⟩ := decI_eq d
  rw [e] at h ⊢
  split at h
  · rename_i hc
    rw [if_pos hc]
    exact hc.2.2.2
  · cases h
theorem dec_isB {d : List Int} (h : ∀ x ∈ d, isB x) : ∀ x ∈ (decI d).1.2.2, isB x := by
  obtain ⟨b, hb, e⟩ := decI_eq d
  have hbB : ∀ x ∈ b, isB x := by
    rw [hb]
    exact unI_isB (fun y hy => h y (List.mem_of_mem_drop (List.mem_of_mem_take hy)))
  rw [e]
  split
  · intro x hx
    have hx' : x ∈ (b.drop 3).take (b.length - 4) := hx
    exact hbB x (List.mem_of_mem_drop (List.mem_of_mem_take hx'))
  · intro x hx
    have hx' : x ∈ ([] : List Int) := hx
    cases hx'
theorem dec_len (d : List Int) : (decI d).1.2.2.length ≤ 60 := by
  obtain ⟨b, hb, e⟩ := decI_eq d
  rw [e]
  split
  · rename_i hc
    have h := hc.2.2.1
    generalize telL b = t at h ⊢
    obtain ⟨x, y, l⟩ := t
    simp only [okT, okTel, Bool.and_eq_true, decide_eq_true_eq] at h
    exact h.2
  · show ([] : List Int).length ≤ 60
    simp
theorem set_ne {xs : List Int} {k : Nat} {x : Int} (hk : k < xs.length) (h : x ≠ xs.getD k 0) : xs.set k x ≠ xs := by
  intro e
  have : (xs.set k x).getD k 0 = xs.getD k 0 := by rw [e]
  rw [List.getD_eq_getElem?_getD, List.getElem?_set_self hk] at this
  exact h (by simpa using this)
theorem set_isB {xs : List Int} {k : Nat} {x : Int} (h : ∀ y ∈ xs, isB y) (hx : isB x) : ∀ y ∈ xs.set k x, isB y := by
  intro y hy
  rcases List.mem_or_eq_of_mem_set hy with h1 | h1
  · exact h y h1
  · rw [h1]; exact hx
end Go.Proofs.YtiajbefljkikiaaDoor.AX
