/- FnWire: the plain laws. No condition beyond each law's own; nothing of the program. -/
import Derived.Test.YtbcpccmefancoaaCx
import Derived.Test.YtbcpccmefancoaaZvol
namespace Go.Proofs.Ytbcpccmefancoaa.AX
open Go
set_option maxRecDepth 10000
set_option linter.unusedVariables false
theorem sq_nn (x : Int) : 0 ≤ x * x := by
  rw [← Int.natAbs_mul_self]
  omega
/-- Both parts are whole numbers over 2 ^ k, none beyond B. -/
def DZ (z : Nat × Nat) (B : Int) (k : Nat) : Prop := ∃ p q : Int, DV z.1 p k ∧ DV z.2 q k ∧ (-B ≤ p ∧ p ≤ B) ∧ (-B ≤ q ∧ q ≤ B)
theorem DZ.zadd {a b : Nat × Nat} {B C : Int} {k : Nat} (h1 : DZ a B k) (h2 : DZ b C k) (hB : B + C ≤ 1000000000000000) (hk : k ≤ 500) : DZ (zadd a b) (B + C) k := by
  obtain ⟨p, q, a1, a2, a3, a4⟩ := h1
  obtain ⟨r, s, b1, b2, b3, b4⟩ := h2
  exact ⟨p + r, q + s, DV.add a1 b1 (by omega) hk, DV.add a2 b2 (by omega) hk, by omega, by omega⟩
theorem DZ.mono {a : Nat × Nat} {B C : Int} {k : Nat} (h : DZ a B k) (hB : B ≤ C) : DZ a C k := by
  obtain ⟨p, q, a1, a2, a3, a4⟩ := h
  exact ⟨p, q, a1, a2, by omega, by omega⟩
theorem DZ.sumF {B : Int} {k : Nat} (hB : 0 ≤ B ∧ B ≤ 1000000) (hk : k ≤ 500) : ∀ {l : List (Nat × Nat)}, (∀ z ∈ l, DZ z B k) → l ≠ [] → l.length ≤ 40 → DZ (sumF l) (B * l.length) k
  | [], _, h, _ => absurd rfl h
  | [a], h, _, _ => by simpa [AX.sumF] using h a (by simp)
  | a :: b :: l, h, _, hl => by
    have h1 := DZ.sumF hB hk (l := b :: l) (fun z hz => h z (by simp [hz])) (by simp) (by simp at hl ⊢; omega)
    have h2 := h a (by simp)
    have hb : B * ((b :: l).length : Int) ≤ 1000000 * 40 := by
      have h3 : ((b :: l).length : Int) ≤ 40 := by simp at hl ⊢; omega
      have := mul_abs (x := B) (y := ((b :: l).length : Int)) (B := 1000000) (C := 40) (by omega) (by omega) (by omega) (by omega)
      omega
    have h3 := DZ.zadd h2 h1 (by omega) hk
    have e : B + B * ((b :: l).length : Int) = B * ((a :: b :: l).length : Int) := by
      rw [show ((a :: b :: l).length : Int) = ((b :: l).length : Int) + 1 by simp, Int.mul_add, Int.mul_one, Int.add_comm]
    rw [e] at h3
    exact h3
theorem DZ.sums {B : Int} {k : Nat} {draw : List (Nat × Nat)} (hB : 0 ≤ B ∧ B ≤ 1000000) (hk : k ≤ 500) (h : ∀ z ∈ draw, DZ z B k) (hl : draw.length ≤ 7) {i : Nat} (hi : i < draw.length) : DZ (zAt (sumsL draw) i) (B * 7) k := by
  have e : zAt (sumsL draw) i = AX.sumF (draw.drop i) := by
    rw [← zAt_get (by rw [sumsL_len]; exact hi), sumsL_get]
  rw [e]
  have h1 := DZ.sumF hB hk (l := draw.drop i) (fun z hz => h z (List.mem_of_mem_drop hz)) (by
    intro h0
    have := congrArg List.length h0
    simp at this
    omega) (by rw [List.length_drop]; omega)
  refine h1.mono ?_
  have h2 : ((draw.drop i).length : Int) ≤ 7 := by rw [List.length_drop]; omega
  exact Int.mul_le_mul_of_nonneg_left h2 hB.1
/-- A wire's numbers. -/
structure Wire (volt : Nat × Nat) (line draw : List (Nat × Nat)) : Prop where
  len : line.length = draw.length
  pos : 1 ≤ line.length
  max : line.length ≤ 7
  line_ : ∀ i, i < line.length → ∃ p q : Int, DV (zAt line i).1 p 6 ∧ DV (zAt line i).2 q 6 ∧ (0 ≤ p ∧ p ≤ 39) ∧ (0 ≤ q ∧ q ≤ 39)
  draw_ : ∀ z ∈ draw, DZ z 178 3
  volt_ : DZ volt 204288 9
/-- A common factor of two, taken out again. -/
theorem DV.down {x k j : Nat} {n : Int} (h : DV x (n * 2 ^ j) (k + j)) : DV x n k := by
  obtain ⟨s, m, q, h1, h2, h3, h4⟩ := h
  refine ⟨s, m, q, h1, h2, h3, ?_⟩
  rw [← Nat.add_assoc, Int.pow_add, ← Int.mul_assoc] at h4
  have h5 : sg s m * 2 ^ (q + k) * 2 ^ j = n * 2 ^ 1074 * 2 ^ j := by rw [h4]; ac_rfl
  exact Int.eq_of_mul_eq_mul_right (by have := ipos j; omega) h5
section
variable {volt : Nat × Nat} {line draw : List (Nat × Nat)}
theorem Wire.fall (w : Wire volt line draw) {i : Nat} (hi : i < line.length) : DZ (zmul (zAt line i) (zAt (sumsL draw) i)) 97188 9 := by
  obtain ⟨p, q, a1, a2, a3, a4⟩ := w.line_ i hi
  obtain ⟨r, s, b1, b2, b3, b4⟩ := DZ.sums (B := 178) (by omega) (by omega) w.draw_ (by have := w.len; have := w.max; omega) (i := i) (by have := w.len; omega)
  obtain ⟨c1, c2⟩ := dv_zmul (B := 39) (C := 178 * 7) a1 a2 b1 b2 (by omega) (by omega) b3 b4 (by omega) (by omega) (by omega) (by omega)
  have d1 := mul_abs (x := p) (y := r) (B := 39) (C := 178 * 7) (by omega) b3 (by omega) (by omega)
  have d2 := mul_abs (x := q) (y := s) (B := 39) (C := 178 * 7) (by omega) b4 (by omega) (by omega)
  have d3 := mul_abs (x := p) (y := s) (B := 39) (C := 178 * 7) (by omega) b4 (by omega) (by omega)
  have d4 := mul_abs (x := q) (y := r) (B := 39) (C := 178 * 7) (by omega) b3 (by omega) (by omega)
  exact ⟨_, _, c1, c2, by omega, by omega⟩
theorem Wire.volts (w : Wire volt line draw) : ∀ {i : Nat}, i ≤ line.length → DZ (voltTo volt line (sumsL draw) i) (204288 + 97188 * i) 9
  | 0, _ => by simpa [voltTo] using w.volt_
  | i + 1, hi => by
    obtain ⟨p, q, a1, a2, a3, a4⟩ := w.volts (i := i) (by omega)
    obtain ⟨r, s, b1, b2, b3, b4⟩ := w.fall (i := i) (by omega)
    have := w.max
    exact ⟨p - r, q - s, DV.sub a1 b1 (by omega) (by omega), DV.sub a2 b2 (by omega) (by omega), by omega, by omega⟩
/-- How great a voltage is. -/
theorem Wire.size (w : Wire volt line draw) {i : Nat} (hi : i ≤ line.length) : ∃ s : Int, DV (zsize (voltTo volt line (sumsL draw) i)) s 18 ∧ 0 ≤ s := by
  obtain ⟨p, q, a1, a2, a3, a4⟩ := w.volts hi
  have := w.max
  have h1 : -900000 ≤ p ∧ p ≤ 900000 := by omega
  have h2 : -900000 ≤ q ∧ q ≤ 900000 := by omega
  have h3 := dv_zsize (B := 900000) a1 a2 h1 h2 (by omega) (by omega) (by omega)
  exact ⟨_, h3, Int.add_nonneg (sq_nn p) (sq_nn q)⟩
theorem Wire.loss (w : Wire volt line draw) : ∀ {i : Nat}, i ≤ line.length → ∃ s : Int, DV (lossTo line (sumsL draw) i) s 12 ∧ 0 ≤ s ∧ s ≤ 130000000 * i
  | 0, _ => ⟨0, (dv_zero.scale 12).of (by omega), by omega, by omega⟩
  | i + 1, hi => by
    obtain ⟨s, a1, a2, a3⟩ := w.loss (i := i) (by omega)
    obtain ⟨p, q, b1, b2, b3, b4⟩ := w.line_ i (by omega)
    obtain ⟨r, t, c1, c2, c3, c4⟩ := DZ.sums (B := 178) (by omega) (by omega) w.draw_ (by have := w.len; have := w.max; omega) (i := i) (by have := w.len; omega)
    have hm := w.max
    have d1 := dv_zsize (B := 178 * 7) c1 c2 c3 c4 (by omega) (by omega) (by omega)
    have e1 := mul_abs c3 c3 (by omega) (by omega)
    have e2 := mul_abs c4 c4 (by omega) (by omega)
    have n1 := sq_nn r
    have n2 := sq_nn t
    have e3 := mul_abs (x := r * r + t * t) (y := p) (B := 3200000) (C := 39) (by omega) (by omega) (by omega) (by omega)
    have n3 : 0 ≤ (r * r + t * t) * p := Int.mul_nonneg (by omega) b3.1
    have f1 := DV.mul d1 b1 (by omega) (by omega)
    exact ⟨s + (r * r + t * t) * p, DV.add a1 f1 (by omega) (by omega), by omega, by omega⟩
/-- Nothing is drawn. -/
def zer (n : Nat) : List (Nat × Nat) := List.replicate n (0, 0)
theorem zer_sum : ∀ n, DV (AX.sumF (zer n)).1 0 9 ∧ DV (AX.sumF (zer n)).2 0 9
  | 0 => ⟨(dv_zero.scale 9).of (by omega), (dv_zero.scale 9).of (by omega)⟩
  | 1 => ⟨(dv_zero.scale 9).of (by omega), (dv_zero.scale 9).of (by omega)⟩
  | n + 2 => by
    obtain ⟨h1, h2⟩ := zer_sum (n + 1)
    have hz := (dv_zero.scale 9).of (n' := 0) (by omega)
    exact ⟨(DV.add hz h1 (by omega) (by omega)).of (by omega), (DV.add hz h2 (by omega) (by omega)).of (by omega)⟩
theorem zer_sums {n i : Nat} (hi : i < n) : DV (zAt (sumsL (zer n)) i).1 0 9 ∧ DV (zAt (sumsL (zer n)) i).2 0 9 := by
  have hl : (zer n).length = n := by simp [zer]
  rw [← zAt_get (by rw [sumsL_len, hl]; exact hi), sumsL_get]
  have : (zer n).drop i = zer (n - i) := by simp [zer]
  rw [this]
  exact zer_sum _
theorem Wire.still (w : Wire volt line draw) {P Q : Int} (hP : DV volt.1 P 9) (hQ : DV volt.2 Q 9) (bP : -204288 ≤ P ∧ P ≤ 204288) (bQ : -204288 ≤ Q ∧ Q ≤ 204288) : ∀ {i : Nat}, i ≤ line.length → DV (voltTo volt line (sumsL (zer line.length)) i).1 P 9 ∧ DV (voltTo volt line (sumsL (zer line.length)) i).2 Q 9
  | 0, _ => ⟨hP, hQ⟩
  | i + 1, hi => by
    obtain ⟨h1, h2⟩ := w.still hP hQ bP bQ (i := i) (by omega)
    obtain ⟨p, q, a1, a2, a3, a4⟩ := w.line_ i (by omega)
    obtain ⟨b1, b2⟩ := zer_sums (n := line.length) (i := i) (by omega)
    obtain ⟨c1, c2⟩ := dv_zmul (B := 39) (C := 0) a1 a2 b1 b2 (by omega) (by omega) (by omega) (by omega) (by omega) (by omega) (by omega) (by omega)
    have c1' := c1.of (n' := 0) (by omega)
    have c2' := c2.of (n' := 0) (by omega)
    -- the same value, at the common scale
    have g1 := h1.scale 6
    have g2 := h2.scale 6
    have f1 := DV.sub g1 c1' (by omega) (by omega)
    have f2 := DV.sub g2 c2' (by omega) (by omega)
    exact ⟨DV.down (f1.of (by omega)), DV.down (f2.of (by omega))⟩
theorem Wire.stillLoss (w : Wire volt line draw) : ∀ {i : Nat}, i ≤ line.length → DV (lossTo line (sumsL (zer line.length)) i) 0 24
  | 0, _ => (dv_zero.scale 24).of (by omega)
  | i + 1, hi => by
    have h1 := w.stillLoss (i := i) (by omega)
    obtain ⟨p, q, b1, b2, b3, b4⟩ := w.line_ i (by omega)
    obtain ⟨c1, c2⟩ := zer_sums (n := line.length) (i := i) (by omega)
    have d1 := dv_zsize (B := 0) c1 c2 (by omega) (by omega) (by omega) (by omega) (by omega)
    have f1 := (DV.mul d1 b1 (by omega) (by omega)).of (n' := 0) (by omega)
    exact (DV.add h1 f1 (by omega) (by omega)).of (by omega)
end
end Go.Proofs.Ytbcpccmefancoaa.AX
