/- Telegrams read back from their bytes, plain: the two ways agree. No condition beyond each law's own; nothing of the program. -/
import Derived.Test.YtiajbefljkikiaaDoorEncr
namespace Go.Proofs.YtiajbefljkikiaaDoor.AX
open Go
set_option maxRecDepth 10000
set_option linter.unusedSimpArgs false
set_option linter.unusedVariables false
/-- A byte. -/
def isB (x : Int) : Prop := 0 ≤ x ∧ x ≤ 255
theorem xor32_all : ∀ n : _root_.Fin 256, IntKind.u8.wrap (BitVec.ofInt 8 ((n.val : Nat) : Int) ^^^ BitVec.ofInt 8 32).toNat = ((n.val ^^^ 32 : Nat) : Int) ∧ n.val ^^^ 32 < 256 ∧ (n.val ^^^ 32) ^^^ 32 = n.val := by decide +kernel
theorem xor32 {x : Int} (h : isB x) : isB (xorI .u8 x 32) ∧ xorI .u8 (xorI .u8 x 32) 32 = x := by
  obtain ⟨n, rfl⟩ : ∃ n : Nat, x = n := ⟨x.toNat, by have := h.1; omega⟩
  have hn : n < 256 := by have := h.2; omega
  obtain ⟨h1, h2, h3⟩ := xor32_all ⟨n, hn⟩
  have e1 : xorI .u8 (n : Int) 32 = ((n ^^^ 32 : Nat) : Int) := h1
  obtain ⟨g1, _, _⟩ := xor32_all ⟨n ^^^ 32, h2⟩
  have e2 : xorI .u8 ((n ^^^ 32 : Nat) : Int) 32 = (((n ^^^ 32) ^^^ 32 : Nat) : Int) := g1
  rw [e1, e2]
  simp only [] at h2 h3
  rw [h3]
  exact ⟨⟨by omega, by omega⟩, rfl⟩
/-- What stands between the flags, as the program reads it. -/
def unI : List Int → List Int
  | [] => []
  | [x] => [x]
  | x :: y :: xs => if x = 125 then xorI .u8 y 32 :: unI xs else x :: unI (y :: xs)
/-- The same as the reference reads it: with the last flag behind it. -/
def unS : List Int → List Int
  | x :: y :: xs => if x = 125 then xorI .u8 y 32 :: unS xs else x :: unS (y :: xs)
  | _ => []
theorem unI_cons {x : Int} {xs : List Int} (h : x ≠ 125) : unI (x :: xs) = x :: unI xs := by
  cases xs with
  | nil => rfl
  | cons y ys => rw [unI, if_neg h]
theorem unI_enc : ∀ {L : List Int}, (∀ x ∈ L, isB x) → unI (L.flatMap encB) = L
  | [], _ => rfl
  | b :: L, h => by
    have hb := h b (by simp)
    have ih := unI_enc (L := L) (fun x hx => h x (by simp [hx]))
    rw [List.flatMap_cons]
    by_cases c : b = 126 ∨ b = 125
    · rw [encB, if_pos c]
      show unI (125 :: xorI .u8 b 32 :: L.flatMap encB) = _
      rw [unI, if_pos rfl, ih, (xor32 hb).2]
    · rw [encB, if_neg c]
      show unI (b :: L.flatMap encB) = _
      rw [unI_cons (fun e => c (.inr e)), ih]
theorem unS_enc {f : Int} : ∀ {L : List Int}, (∀ x ∈ L, isB x) → unS (L.flatMap encB ++ [f]) = L
  | [], _ => rfl
  | b :: L, h => by
    have hb := h b (by simp)
    have ih := unS_enc (f := f) (L := L) (fun x hx => h x (by simp [hx]))
    rw [List.flatMap_cons, List.append_assoc]
    by_cases c : b = 126 ∨ b = 125
    · rw [encB, if_pos c]
      show unS (125 :: xorI .u8 b 32 :: (L.flatMap encB ++ [f])) = _
      rw [unS, if_pos rfl, ih, (xor32 hb).2]
    · rw [encB, if_neg c]
      have : ∃ y ys, L.flatMap encB ++ [f] = y :: ys := by
        cases L.flatMap encB with
        | nil => exact ⟨f, [], rfl⟩
        | cons y ys => exact ⟨y, ys ++ [f], rfl⟩
      obtain ⟨y, ys, e⟩ := this
      show unS (b :: (L.flatMap encB ++ [f])) = _
      rw [e] at ih ⊢
      rw [unS, if_neg (fun e => c (.inr e)), ih]
theorem unI_isB : ∀ {xs : List Int}, (∀ x ∈ xs, isB x) → ∀ x ∈ unI xs, isB x
  | [], _ => fun x hx => by cases hx
  | [x], h => h
  | x :: y :: xs, h => by
    intro z hz
    rw [unI] at hz
    split at hz
    · rcases List.mem_cons.1 hz with rfl | hz
      · exact (xor32 (h y (by simp))).1
      · exact unI_isB (xs := xs) (fun w hw => h w (by simp [hw])) z hz
    · rcases List.mem_cons.1 hz with rfl | hz
      · exact h _ (by simp)
      · exact unI_isB (xs := y :: xs) (fun w hw => h w (by simp at hw ⊢; exact .inr hw)) z hz
theorem unS_isB : ∀ {xs : List Int}, (∀ x ∈ xs, isB x) → ∀ x ∈ unS xs, isB x
  | [], _ => fun x hx => by cases hx
  | [x], _ => fun x hx => by cases hx
  | x :: y :: xs, h => by
    intro z hz
    rw [unS] at hz
    split at hz
    · rcases List.mem_cons.1 hz with rfl | hz
      · exact (xor32 (h y (by simp))).1
      · exact unS_isB (xs := xs) (fun w hw => h w (by simp [hw])) z hz
    · rcases List.mem_cons.1 hz with rfl | hz
      · exact h _ (by simp)
      · exact unS_isB (xs := y :: xs) (fun w hw => h w (by simp at hw ⊢; exact .inr hw)) z hz
/-- A telegram out of its load. -/
def telL (b : List Int) : Tel := (b.getD 0 0, b.getD 1 0, (b.drop 3).take (b.length - 4))
def telZ : Tel := (0, 0, [])
def decI (d : List Int) : Tel × Bool :=
  let b := unI ((d.drop 1).take (d.length - 2))
  if (6 ≤ d.length ∧ d.length ≤ 130) ∧ 4 ≤ b.length ∧ okT (telL b) = true ∧ encR (telL b).1 (telL b).2.1 (telL b).2.2 = d then (telL b, true) else (telZ, false)
def decS (d : List Int) : Tel × Bool :=
  let b := unS (d.drop 1)
  if d.length ≤ 140 ∧ 4 ≤ b.length ∧ okT (telL b) = true ∧ encR (telL b).1 (telL b).2.1 (telL b).2.2 = d then (telL b, true) else (telZ, false)
theorem wrapB (x : Int) (h : isB x) : IntKind.u8.wrap x = x := by
  obtain ⟨n, rfl⟩ : ∃ n : Nat, x = n := ⟨x.toNat, by have := h.1; omega⟩
  rw [wrap8, Nat.mod_eq_of_lt (by have := h.2; omega)]
theorem wrap_isB (x : Int) : isB (IntKind.u8.wrap x) := by
  simp only [IntKind.wrap, IntKind.bits, IntKind.signed]
  simp only [isB, Bool.false_and, if_false, Bool.false_eq_true]
  have h1 := Int.emod_nonneg x (show (2 ^ 8 : Int) ≠ 0 by decide)
  have h2 := Int.emod_lt_of_pos x (show (0 : Int) < 2 ^ 8 by decide)
  omega
theorem load_isB {a b : Int} {l : List Int} (hl : ∀ x ∈ l, isB x) : ∀ x ∈ loadL a b l, isB x := by
  intro x hx
  rw [loadL, load3] at hx
  simp only [List.mem_append, List.mem_cons, List.not_mem_nil, or_false] at hx
  rcases hx with (((rfl | rfl | rfl) | h) | rfl)
  · exact wrap_isB _
  · exact wrap_isB _
  · exact wrap_isB _
  · exact hl x h
  · exact wrap_isB _
theorem tel_load {a b : Int} {l : List Int} (h : okT (a, b, l) = true) : telL (loadL a b l) = (a, b, l) := by
  have ha : isB a ∧ isB b := by
    simp only [okT, okTel, Bool.and_eq_true, inR_iff] at h
    exact ⟨⟨h.1.1.1, h.1.1.2⟩, h.1.2.1, by omega⟩
  rw [telL, loadL_len]
  have e : loadL a b l = IntKind.u8.wrap a :: IntKind.u8.wrap b :: IntKind.u8.wrap (l.length : Int) :: (l ++ [IntKind.u8.wrap (crcR (load3 a b l ++ l))]) := by simp [loadL, load3]
  rw [e]
  simp only [List.getD_cons_zero, List.getD_cons_succ, List.drop_succ_cons, List.drop_zero, Nat.add_sub_cancel]
  rw [wrapB a ha.1, wrapB b ha.2, List.take_append_of_le_length (Nat.le_refl _), List.take_length]
/-- What is a right telegram's code is read back, both ways. -/
theorem dec_code {a b : Int} {l d : List Int} (h : okT (a, b, l) = true) (hl : ∀ x ∈ l, isB x) (he : encR a b l = d) : decI d = ((a, b, l), true) ∧ decS d = ((a, b, l), true) := by
  have hB := load_isB (a := a) (b := b) hl
  have ok : okTel a b l.length = true := h
  have he' : d = encL (loadL a b l) := by rw [← he, encR, if_pos ok]
  have h60 : l.length ≤ 60 := by
    simp only [okTel, Bool.and_eq_true, decide_eq_true_eq] at ok
    exact ok.2
  have hd : d = 126 :: ((loadL a b l).flatMap encB ++ [126]) := by rw [he']; rfl
  have hfl := flat_le (loadL a b l)
  have hll := loadL_len a b l
  have hge : ∀ L : List Int, L.length ≤ (L.flatMap encB).length := by
    intro L
    induction L with
    | nil => simp
    | cons x L ih =>
      rw [List.flatMap_cons, List.length_append, List.length_cons]
      have : 1 ≤ (encB x).length := by rw [encB]; split <;> simp
      omega
  have hge := hge (loadL a b l)
  have hlen : d.length = ((loadL a b l).flatMap encB).length + 2 := by rw [hd]; simp
  have hm : (d.drop 1).take (d.length - 2) = (loadL a b l).flatMap encB := by
    rw [hlen, hd]
    show ((loadL a b l).flatMap encB ++ [126]).take _ = _
    rw [Nat.add_sub_cancel, List.take_append_of_le_length (Nat.le_refl _), List.take_length]
  have hu := unI_enc hB
  have hs : unS (d.drop 1) = loadL a b l := by rw [hd]; exact unS_enc hB
  have ht := tel_load h
  constructor
  · rw [decI, hm]
    simp only [hu, ht]
    rw [if_pos ⟨⟨by omega, by omega⟩, by omega, h, he⟩]
  · rw [decS]
    simp only [hs, ht]
    rw [if_pos ⟨by omega, by omega, h, he⟩]
theorem dec_same {d : List Int} (hd : ∀ x ∈ d, isB x) : decS d = decI d := by
  have bI : ∀ x ∈ (telL (unI ((d.drop 1).take (d.length - 2)))).2.2, isB x := fun x hx =>
    unI_isB (fun y hy => hd y (List.mem_of_mem_drop (List.mem_of_mem_take hy))) x (List.mem_of_mem_drop (List.mem_of_mem_take hx))
  have bS : ∀ x ∈ (telL (unS (d.drop 1))).2.2, isB x := fun x hx =>
    unS_isB (fun y hy => hd y (List.mem_of_mem_drop hy)) x (List.mem_of_mem_drop (List.mem_of_mem_take hx))
  by_cases cI : (6 ≤ d.length ∧ d.length ≤ 130) ∧ 4 ≤ (unI ((d.drop 1).take (d.length - 2))).length ∧ okT (telL (unI ((d.drop 1).take (d.length - 2)))) = true ∧ encR (telL (unI ((d.drop 1).take (d.length - 2)))).1 (telL (unI ((d.drop 1).take (d.length - 2)))).2.1 (telL (unI ((d.drop 1).take (d.length - 2)))).2.2 = d
  · have := dec_code (a := (telL (unI ((d.drop 1).take (d.length - 2)))).1) (b := (telL (unI ((d.drop 1).take (d.length - 2)))).2.1) (l := (telL (unI ((d.drop 1).take (d.length - 2)))).2.2) cI.2.2.1 bI cI.2.2.2
    rw [this.1, this.2]
  · by_cases cS : d.length ≤ 140 ∧ 4 ≤ (unS (d.drop 1)).length ∧ okT (telL (unS (d.drop 1))) = true ∧ encR (telL (unS (d.drop 1))).1 (telL (unS (d.drop 1))).2.1 (telL (unS (d.drop 1))).2.2 = d
    · have := dec_code (a := (telL (unS (d.drop 1))).1) (b := (telL (unS (d.drop 1))).2.1) (l := (telL (unS (d.drop 1))).2.2) cS.2.2.1 bS cS.2.2.2
      rw [this.1, this.2]
    · rw [decI, decS, if_neg cI, if_neg cS]
end Go.Proofs.YtiajbefljkikiaaDoor.AX
