/- The executor is sound: regions whose order is open, third part: the heap when some of the operations are done. No condition beyond each law's own; nothing of the program. -/
import Derived.Test.YtkadelndmaegdaaAXl
namespace Go.Proofs.Ytkadelndmaegdaa.AX
open Go

section
variable {P : Program} {C : CallRel} {n : Nat} {ops : Array Oper} {pre : List (List Nat)} {os : List XO} {Ts : Nat → Tm} {Hs : Nat → Heap} {vs : Nat → Value} {S : Nat → Bool} {i : Nat} {xo : XO}
theorem heapstep (hcan : Can P C n ops pre os Ts Hs vs) {k : Nat} {yo : XO} (hyo : os[k]? = some yo) (hE : kindE yo.op = false) :
    Hs (k + 1) = Hs k ∨ kindA yo.op = true ∧ wanted (Ts k) yo.guard = true ∧ ∃ cs, Hs (k + 1) = (Hs k).push cs := by
  rcases hcan.step k yo hyo with ⟨hw, hv⟩ | ⟨_, _, hh⟩
  · have hs := hv.step (fun f xs e => by rw [e] at hE; cases hE) (fun f xs e => by rw [e] at hE; cases hE)
    have hk := step_kind hs hE
    cases hA : kindA yo.op with
    | true => exact .inr ⟨rfl, hw, hk.1 hA⟩
    | false => exact .inl (hk.2 hA)
  · exact .inl hh
theorem push_get (H : Heap) (cs : List Value) (x : Nat) : (H.push cs).get x = if x = H.nxt then some (.own cs) else H.get x := rfl
theorem gk_false {k x : Nat} (h : S k = false) : gk os Hs S (k + 1) x = gk os Hs S k x := by simp only [gk, h]
theorem gk_true {k x : Nat} {yo : XO} (h : S k = true) (hyo : os[k]? = some yo) : gk os Hs S (k + 1) x = if kindE yo.op = true then (Hs (k + 1)).get x else if (Hs k).nxt ≤ x ∧ x < (Hs (k + 1)).nxt then (Hs (k + 1)).get x else gk os Hs S k x := by simp only [gk, h, hyo]
theorem gk_same {k x : Nat} {yo : XO} (hyo : os[k]? = some yo) (hE : kindE yo.op = false) (hh : Hs (k + 1) = Hs k) : gk os Hs S (k + 1) x = gk os Hs S k x := by
  cases hS : S k with
  | false => exact gk_false hS
  | true => rw [gk_true hS hyo, if_neg (by rw [hE]; simp), if_neg (by rw [hh]; omega)]
theorem nxt_mono (hm : ∀ k, k < os.length → (Hs k).nxt ≤ (Hs (k + 1)).nxt) : ∀ {j k}, j ≤ k → k ≤ os.length → (Hs j).nxt ≤ (Hs k).nxt := by
  intro j k hjk
  induction k with
  | zero => intro _; obtain rfl : j = 0 := (by omega); exact Nat.le_refl _
  | succ k ih =>
    intro hk
    by_cases e : j = k + 1
    · subst e; exact Nat.le_refl _
    · exact Nat.le_trans (ih (by omega) (by omega)) (hm k (by omega))
theorem os_get {k : Nat} (h : k < os.length) : ∃ yo, os[k]? = some yo := ⟨os[k], List.getElem?_eq_getElem h⟩
/-- Ahead of an operation with an effect the heap is that of the text's order, but for what was made early. -/
theorem gk_E1 (hcan : Can P C n ops pre os Ts Hs vs) (hn : Now pre os.length S i) (hxo : os[i]? = some xo) (hE : kindE xo.op = true) : ∀ k, k ≤ i → ∀ x, gk os Hs S k x = (Hs k).get x := by
  intro k
  induction k with
  | zero => intro _ x; rfl
  | succ k ih =>
    intro hk x
    have ih := ih (by omega) x
    have hlt := hn.lt
    obtain ⟨yo, hyo⟩ := os_get (os := os) (show k < os.length by omega)
    cases hEy : kindE yo.op with
    | true =>
      have hS := hn.ahead k (hcan.d4 i k xo yo hxo hyo (by omega) hE (.inl hEy))
      rw [gk_true hS hyo, if_pos hEy]
    | false =>
      rcases heapstep hcan hyo hEy with hh | ⟨hA, _, cs, hh⟩
      · rw [gk_same hyo hEy hh, ih, hh]
      · have hS := hn.ahead k (hcan.d4 i k xo yo hxo hyo (by omega) hE (.inr hA))
        rw [gk_true hS hyo, if_neg (by rw [hEy]; simp)]
        split
        · rfl
        · rename_i hr
          rw [ih, hh, push_get, if_neg]
          intro e
          apply hr
          rw [hh, e]
          exact ⟨Nat.le_refl _, Nat.lt_succ_self _⟩
theorem later_noE (hcan : Can P C n ops pre os Ts Hs vs) (hn : Now pre os.length S i) (hxo : os[i]? = some xo) (hEA : kindE xo.op = true ∨ kindA xo.op = true) {k : Nat} {yo : XO} (hk : i < k) (hkm : k < os.length) (hyo : os[k]? = some yo) (hS : S k = true) : kindE yo.op = false := by
  cases hEy : kindE yo.op with
  | false => rfl
  | true =>
    have h1 := hcan.d4 k i yo xo hyo hxo hk hEy hEA
    rw [hn.not_pre hkm hS] at h1
    cases h1
theorem gk_E2 (hcan : Can P C n ops pre os Ts Hs vs) (hm : ∀ k, k < os.length → (Hs k).nxt ≤ (Hs (k + 1)).nxt) (hn : Now pre os.length S i) (hxo : os[i]? = some xo) (hE : kindE xo.op = true) {x : Nat} (hx : x < (Hs i).nxt) : gk os Hs S os.length x = (Hs i).get x := by
  have key : ∀ k, i ≤ k → k ≤ os.length → gk os Hs S k x = (Hs i).get x := by
    intro k
    induction k with
    | zero => intro h _; obtain rfl : i = 0 := (by omega); rfl
    | succ k ih =>
      intro h1 h2
      by_cases e : i = k + 1
      · subst e; exact gk_E1 hcan hn hxo hE _ (Nat.le_refl _) x
      · have ih := ih (by omega) (by omega)
        obtain ⟨yo, hyo⟩ := os_get (os := os) (show k < os.length by omega)
        cases hS : S k with
        | false => rw [gk_false hS]; exact ih
        | true =>
          have hne : k ≠ i := fun e => by rw [e, hn.not] at hS; cases hS
          have hEy := later_noE hcan hn hxo (.inl hE) (by omega) (by omega) hyo hS
          rw [gk_true hS hyo, if_neg (by rw [hEy]; simp), if_neg]
          · exact ih
          · have := nxt_mono hm (show i ≤ k by omega) (by omega)
            omega
  exact key os.length (Nat.le_of_lt hn.lt) (Nat.le_refl _)
theorem gk_before : ∀ k, k ≤ i → ∀ x, gk os Hs (with_ S i) k x = gk os Hs S k x := by
  intro k
  induction k with
  | zero => intro _ x; rfl
  | succ k ih =>
    intro hk x
    have ih := ih (by omega) x
    simp only [gk, with_ne (S := S) (show k ≠ i by omega), ih]
/-- Behind an operation with an effect. -/
theorem gk_E3 (hcan : Can P C n ops pre os Ts Hs vs) (hm : ∀ k, k < os.length → (Hs k).nxt ≤ (Hs (k + 1)).nxt) (hw : ∀ k, k ≤ os.length → ∀ x ob, (Hs k).get x = some ob → x < (Hs k).nxt) (hn : Now pre os.length S i) (hxo : os[i]? = some xo) (hE : kindE xo.op = true) (x : Nat) :
    gk os Hs (with_ S i) os.length x = if x < (Hs (i + 1)).nxt then (Hs (i + 1)).get x else gk os Hs S os.length x := by
  have hlt := hn.lt
  have none_of : ∀ k, k ≤ os.length → (Hs k).nxt ≤ x → (Hs k).get x = none := by
    intro k hk hx
    cases h : (Hs k).get x with
    | none => rfl
    | some ob => have := hw k hk x ob h; omega
  have key : ∀ k, i < k → k ≤ os.length → gk os Hs (with_ S i) k x = if x < (Hs (i + 1)).nxt then (Hs (i + 1)).get x else gk os Hs S k x := by
    intro k
    induction k with
    | zero => intro h; omega
    | succ k ih =>
      intro h1 h2
      by_cases e : k = i
      · subst e
        rw [gk_true with_self hxo, if_pos hE, gk_false hn.not, gk_E1 hcan hn hxo hE k (Nat.le_refl _) x]
        split
        · rfl
        · rename_i hx
          have := hm k hlt
          rw [none_of (k + 1) (by omega) (by omega), none_of k (by omega) (by omega)]
      · have ih := ih (by omega) (by omega)
        obtain ⟨yo, hyo⟩ := os_get (os := os) (show k < os.length by omega)
        cases hS : S k with
        | false => rw [gk_false (by rw [with_ne e]; exact hS), gk_false hS]; exact ih
        | true =>
          have hEy := later_noE hcan hn hxo (.inl hE) (by omega) (by omega) hyo hS
          rw [gk_true (by rw [with_ne e]; exact hS) hyo, gk_true hS hyo]
          simp only [hEy, Bool.false_eq_true, if_false]
          by_cases hr : (Hs k).nxt ≤ x ∧ x < (Hs (k + 1)).nxt
          · have := nxt_mono hm (show i + 1 ≤ k by omega) (by omega)
            rw [if_pos hr, if_pos hr, if_neg (by omega)]
          · rw [if_neg hr, if_neg hr]
            exact ih
  exact key os.length hlt (Nat.le_refl _)
/-- Behind an operation without. -/
theorem gk_N (hcan : Can P C n ops pre os Ts Hs vs) (hm : ∀ k, k < os.length → (Hs k).nxt ≤ (Hs (k + 1)).nxt) (hn : Now pre os.length S i) (hxo : os[i]? = some xo) (hE : kindE xo.op = false) (x : Nat) :
    gk os Hs (with_ S i) os.length x = if (Hs i).nxt ≤ x ∧ x < (Hs (i + 1)).nxt then (Hs (i + 1)).get x else gk os Hs S os.length x := by
  have hlt := hn.lt
  have key : ∀ k, i < k → k ≤ os.length → gk os Hs (with_ S i) k x = if (Hs i).nxt ≤ x ∧ x < (Hs (i + 1)).nxt then (Hs (i + 1)).get x else gk os Hs S k x := by
    intro k
    induction k with
    | zero => intro h; omega
    | succ k ih =>
      intro h1 h2
      by_cases e : k = i
      · subst e
        rw [gk_true with_self hxo, if_neg (by rw [hE]; simp), gk_false hn.not, gk_before k (Nat.le_refl _)]
      · have ih := ih (by omega) (by omega)
        obtain ⟨yo, hyo⟩ := os_get (os := os) (show k < os.length by omega)
        cases hS : S k with
        | false => rw [gk_false (by rw [with_ne e]; exact hS), gk_false hS]; exact ih
        | true =>
          rw [gk_true (by rw [with_ne e]; exact hS) hyo, gk_true hS hyo]
          cases hEy : kindE yo.op with
          | true =>
            rw [if_pos rfl, if_pos rfl, if_neg]
            intro hr
            rcases heapstep hcan hxo hE with hh | ⟨hA, _, _⟩
            · rw [hh] at hr; omega
            · have := later_noE hcan hn hxo (.inr hA) (by omega) (by omega) hyo hS
              rw [hEy] at this
              cases this
          | false =>
            simp only [Bool.false_eq_true, if_false]
            by_cases hr : (Hs k).nxt ≤ x ∧ x < (Hs (k + 1)).nxt
            · rw [if_pos hr, if_pos hr]
              have := nxt_mono hm (show i + 1 ≤ k by omega) (by omega)
              rw [if_neg (by omega)]
            · rw [if_neg hr, if_neg hr]
              exact ih
  exact key os.length hlt (Nat.le_refl _)
/-- What an operation reads is what it reads in the text's order. -/
theorem gk_L (hcan : Can P C n ops pre os Ts Hs vs) (hn : Now pre os.length S i) (hxo : os[i]? = some xo) (hwx : wanted (Ts i) xo.guard = true) {x : Nat} (hr : Reads (Ts i) xo.op x) : gk os Hs S os.length x = (Hs i).get x := by
  have hlt := hn.lt
  -- an operation without an order to it leaves x alone
  have quiet : ∀ k, k < os.length → k ≠ i → pre_ pre i k = false → pre_ pre k i = false → (Hs (k + 1)).get x = (Hs k).get x := by
    intro k hk hki h1 h2
    obtain ⟨yo, hyo⟩ := os_get (os := os) hk
    cases hEy : kindE yo.op with
    | true =>
      rcases hcan.step k yo hyo with ⟨hw, _⟩ | ⟨_, _, hh⟩
      · rcases hcan.stE i k xo yo x hxo hyo hwx hw hr hEy with h3 | h3 | h3
        · rw [h1] at h3; cases h3
        · rw [h2] at h3; cases h3
        · exact h3
      · rw [hh]
    | false =>
      rcases heapstep hcan hyo hEy with hh | ⟨hA, hw, cs, hh⟩
      · rw [hh]
      · rcases hcan.stA i k xo yo x hxo hyo hwx hw hr hA with h3 | h3 | h3
        · rw [h1] at h3; cases h3
        · rw [h2] at h3; cases h3
        · rw [hh, push_get, if_neg h3]
  have noafter : ∀ k, k < os.length → i < k → pre_ pre i k = false := by
    intro k hk hik
    cases hp : pre_ pre i k with
    | false => rfl
    | true => have := pre_lt hcan i hlt k hp; omega
  have key : ∀ k, k ≤ os.length → gk os Hs S k x = (Hs (min k i)).get x := by
    intro k
    induction k with
    | zero => intro _; simp [gk]
    | succ k ih =>
      intro hk
      have ih := ih (by omega)
      obtain ⟨yo, hyo⟩ := os_get (os := os) (show k < os.length by omega)
      by_cases hki : k < i
      · rw [Nat.min_eq_left (by omega)]
        rw [Nat.min_eq_left (by omega)] at ih
        cases hS : S k with
        | false =>
          have h1 : pre_ pre i k = false := by
            cases hp : pre_ pre i k with
            | false => rfl
            | true => have := hn.ahead k hp; rw [hS] at this; cases this
          have h2 : pre_ pre k i = false := by
            cases hp : pre_ pre k i with
            | false => rfl
            | true => have := pre_lt hcan k (by omega) i hp; omega
          rw [gk_false hS, ih, quiet k (by omega) (by omega) h1 h2]
        | true =>
          rw [gk_true hS hyo]
          cases hEy : kindE yo.op with
          | true => rw [if_pos rfl]
          | false =>
            simp only [Bool.false_eq_true, if_false]
            rcases heapstep hcan hyo hEy with hh | ⟨_, _, cs, hh⟩
            · rw [if_neg (by rw [hh]; omega), ih, hh]
            · split
              · rfl
              · rename_i hrr
                rw [ih, hh, push_get, if_neg]
                intro e
                apply hrr
                rw [hh, e]
                exact ⟨Nat.le_refl _, Nat.lt_succ_self _⟩
      · rw [Nat.min_eq_right (by omega)]
        rw [Nat.min_eq_right (by omega)] at ih
        cases hS : S k with
        | false => rw [gk_false hS]; exact ih
        | true =>
          have hne : k ≠ i := fun e => by rw [e, hn.not] at hS; cases hS
          have hkm : k < os.length := by omega
          rw [gk_true hS hyo]
          cases hEy : kindE yo.op with
          | true =>
            rw [if_pos rfl]
            have chain : ∀ j, i ≤ j → j ≤ k + 1 → (Hs j).get x = (Hs i).get x := by
              intro j
              induction j with
              | zero => intro h1 _; obtain rfl : i = 0 := (by omega); rfl
              | succ j ihj =>
                intro h1 h2
                by_cases e : i = j + 1
                · rw [e]
                · have ihj := ihj (by omega) (by omega)
                  by_cases hji : j = i
                  · subst hji
                    -- the reading operation itself turns nothing
                    have hEx : kindE xo.op = false := by
                      obtain ⟨p, o, ⟨h3, _⟩ | ⟨h3, _⟩⟩ := hr
                      · rcases h3 with h3 | ⟨m, h3⟩ <;> rw [h3] <;> rfl
                      · rw [h3]; rfl
                    have hAx : kindA xo.op = false := by
                      obtain ⟨p, o, ⟨h3, _⟩ | ⟨h3, _⟩⟩ := hr
                      · rcases h3 with h3 | ⟨m, h3⟩ <;> rw [h3] <;> rfl
                      · rw [h3]; rfl
                    rcases heapstep hcan hxo hEx with hh | ⟨hA, _⟩
                    · rw [hh]
                    · rw [hAx] at hA; cases hA
                  · obtain ⟨zo, hzo⟩ := os_get (os := os) (show j < os.length by omega)
                    rw [← ihj]
                    -- what turns the heap there is done, too
                    have hq : S j = true → (Hs (j + 1)).get x = (Hs j).get x := fun hSj => quiet j (by omega) hji (noafter j (by omega) (by omega)) (hn.not_pre (by omega) hSj)
                    by_cases hjk : j = k
                    · subst hjk; exact hq hS
                    · cases hEz : kindE zo.op with
                      | true => exact hq (hn.closed k hkm hS j (hcan.d4 k j yo zo hyo hzo (by omega) hEy (.inl hEz)))
                      | false =>
                        rcases heapstep hcan hzo hEz with hh | ⟨hA, _⟩
                        · rw [hh]
                        · exact hq (hn.closed k hkm hS j (hcan.d4 k j yo zo hyo hzo (by omega) hEy (.inr hA)))
            exact chain (k + 1) (by omega) (Nat.le_refl _)
          | false =>
            simp only [Bool.false_eq_true, if_false]
            rcases heapstep hcan hyo hEy with hh | ⟨hA, hw, cs, hh⟩
            · rw [if_neg (by rw [hh]; omega)]; exact ih
            · rw [if_neg]
              · exact ih
              · intro hrr
                rcases hcan.stA i k xo yo x hxo hyo hwx hw hr hA with h3 | h3 | h3
                · rw [noafter k hkm (by omega)] at h3; cases h3
                · rw [hn.not_pre hkm hS] at h3; cases h3
                · rw [hh] at hrr
                  simp only [Heap.push] at hrr
                  omega
  rw [key os.length (Nat.le_refl _), Nat.min_eq_right (Nat.le_of_lt hlt)]
/-- When all is done. -/
theorem gk_all (hcan : Can P C n ops pre os Ts Hs vs) (hS : ∀ k, k < os.length → S k = true) : ∀ k, k ≤ os.length → ∀ x, gk os Hs S k x = (Hs k).get x := by
  intro k
  induction k with
  | zero => intro _ x; rfl
  | succ k ih =>
    intro hk x
    have ih := ih (by omega) x
    obtain ⟨yo, hyo⟩ := os_get (os := os) (show k < os.length by omega)
    rw [gk_true (hS k (by omega)) hyo]
    cases hEy : kindE yo.op with
    | true => rw [if_pos rfl]
    | false =>
      simp only [Bool.false_eq_true, if_false]
      rcases heapstep hcan hyo hEy with hh | ⟨_, _, cs, hh⟩
      · rw [if_neg (by rw [hh]; omega), ih, hh]
      · split
        · rfl
        · rename_i hrr
          rw [ih, hh, push_get, if_neg]
          intro e
          apply hrr
          rw [hh, e]
          exact ⟨Nat.le_refl _, Nat.lt_succ_self _⟩
end
end Go.Proofs.Ytkadelndmaegdaa.AX
