/- FnComplex: the plain law. No condition beyond each law's own; nothing of the program. -/
import Derived.Test.YtbcpccmefancoaaDy
import Derived.Test.YtbcpccmefancoaaZs
namespace Go.Proofs.Ytbcpccmefancoaa.AX
open Go
set_option maxRecDepth 10000
set_option linter.unusedVariables false
theorem DV.of {x k : Nat} {n n' : Int} (h : DV x n k) (e : n = n') : DV x n' k := e ▸ h
theorem dv_four : DV 4616189618054758400 4 0 := by
  have h : FloatKind.f64.nearest 4 = 4616189618054758400 := by decide
  rw [← h]
  exact DV.int (by decide)
theorem dv_zero : DV 0 0 0 := by
  have h : FloatKind.f64.nearest 0 = 0 := by decide
  have h1 := DV.int (n := 0) (by decide)
  rwa [h] at h1
theorem natAbs_lt {z : Int} {B : Nat} (h1 : -(B : Int) < z) (h2 : z < B) : z.natAbs < B := by omega
theorem mul_abs {x y : Int} {B C : Int} (hx : -B ≤ x ∧ x ≤ B) (hy : -C ≤ y ∧ y ≤ C) (hB : 0 ≤ B) (hC : 0 ≤ C) : -(B * C) ≤ x * y ∧ x * y ≤ B * C := by
  have h1 : (x * y).natAbs ≤ (B * C).natAbs := by
    rw [Int.natAbs_mul, Int.natAbs_mul]
    exact Nat.mul_le_mul (by omega) (by omega)
  have h2 : 0 ≤ B * C := Int.mul_nonneg hB hC
  omega
/-- A quarter of a small whole number. -/
theorem dv_quarter {m : Int} (h : -128 ≤ m ∧ m ≤ 127) : DV (fdiv .f64 (FloatKind.f64.nearest m) 4616189618054758400) m 2 := by
  have h1 := (DV.int (n := m) (by omega)).scale 2
  exact DV.div (r := 2) (h1) (dv_four.of (by decide)) (by omega) (by omega)
section
variable {a b : Nat × Nat} {m1 m2 n1 n2 : Int} {k l : Nat}
theorem dv_zmul {B C : Int} (ha1 : DV a.1 m1 k) (ha2 : DV a.2 m2 k) (hb1 : DV b.1 n1 l) (hb2 : DV b.2 n2 l) (h1 : -B ≤ m1 ∧ m1 ≤ B) (h2 : -B ≤ m2 ∧ m2 ≤ B) (h3 : -C ≤ n1 ∧ n1 ≤ C) (h4 : -C ≤ n2 ∧ n2 ≤ C) (hB : 0 ≤ B) (hC : 0 ≤ C) (hBC : B * C ≤ 1000000000000000) (hk : k + l ≤ 500) :
    DV (zmul a b).1 (m1 * n1 - m2 * n2) (k + l) ∧ DV (zmul a b).2 (m1 * n2 + m2 * n1) (k + l) := by
  have a1 := mul_abs h1 h3 hB hC
  have a2 := mul_abs h2 h4 hB hC
  have a3 := mul_abs h1 h4 hB hC
  have a4 := mul_abs h2 h3 hB hC
  exact ⟨DV.sub (DV.mul ha1 hb1 (by omega) hk) (DV.mul ha2 hb2 (by omega) hk) (by omega) hk, DV.add (DV.mul ha1 hb2 (by omega) hk) (DV.mul ha2 hb1 (by omega) hk) (by omega) hk⟩
theorem dv_zsize {B : Int} (ha1 : DV a.1 m1 k) (ha2 : DV a.2 m2 k) (h1 : -B ≤ m1 ∧ m1 ≤ B) (h2 : -B ≤ m2 ∧ m2 ≤ B) (hB : 0 ≤ B) (hBB : B * B ≤ 1000000000000000) (hk : k + k ≤ 500) : DV (zsize a) (m1 * m1 + m2 * m2) (k + k) := by
  have a1 := mul_abs h1 h1 hB hB
  have a2 := mul_abs h2 h2 hB hB
  exact DV.add (DV.mul ha1 ha1 (by omega) hk) (DV.mul ha2 ha2 (by omega) hk) (by omega) hk
theorem dv_zadd (ha1 : DV a.1 m1 k) (ha2 : DV a.2 m2 k) (hb1 : DV b.1 n1 k) (hb2 : DV b.2 n2 k) (h1 : (m1 + n1).natAbs < 2 ^ 53) (h2 : (m2 + n2).natAbs < 2 ^ 53) (hk : k ≤ 500) : DV (zadd a b).1 (m1 + n1) k ∧ DV (zadd a b).2 (m2 + n2) k := ⟨DV.add ha1 hb1 h1 hk, DV.add ha2 hb2 h2 hk⟩
/-- A product, divided again. -/
theorem dv_back {t : Nat} {T : Nat} (ht : t ≤ 7) (ha1 : DV a.1 m1 2) (ha2 : DV a.2 m2 2) (h1 : -128 ≤ m1 ∧ m1 ≤ 128) (h2 : -128 ≤ m2 ∧ m2 ≤ 128) (hT : DV T (2 ^ t) 0) : DV (zdiv (zmul a (T, 0)) (T, 0)).1 m1 2 ∧ DV (zdiv (zmul a (T, 0)) (T, 0)).2 m2 2 := by
  have hz := dv_zero
  have h128 : (2 : Int) ^ t ≤ 128 := by
    have : t = 0 ∨ t = 1 ∨ t = 2 ∨ t = 3 ∨ t = 4 ∨ t = 5 ∨ t = 6 ∨ t = 7 := by omega
    rcases this with rfl | rfl | rfl | rfl | rfl | rfl | rfl | rfl <;> decide
  have hpos := ipos t
  obtain ⟨q1, q2⟩ := dv_zmul (b := (T, 0)) (B := 128) (C := 128) ha1 ha2 hT hz h1 h2 ⟨by omega, h128⟩ ⟨by omega, by omega⟩ (by omega) (by omega) (by omega) (by omega)
  have b1 := mul_abs h1 (⟨by omega, h128⟩ : -128 ≤ (2 : Int) ^ t ∧ (2 : Int) ^ t ≤ 128) (by omega) (by omega)
  have b2 := mul_abs h2 (⟨by omega, h128⟩ : -128 ≤ (2 : Int) ^ t ∧ (2 : Int) ^ t ≤ 128) (by omega) (by omega)
  have q1' := q1.of (n' := m1 * 2 ^ t) (by rw [Int.mul_zero, Int.sub_zero])
  have q2' := q2.of (n' := m2 * 2 ^ t) (by rw [Int.mul_zero, Int.zero_add])
  have hs := dv_zsize (a := (T, 0)) (B := 128) hT hz ⟨by omega, h128⟩ ⟨by omega, by omega⟩ (by omega) (by omega) (by omega)
  have hs' := hs.of (n' := 2 ^ (t + t)) (by rw [Int.mul_zero, Int.add_zero, ← Int.pow_add])
  have c1 := mul_abs b1 (⟨by omega, h128⟩ : -128 ≤ (2 : Int) ^ t ∧ (2 : Int) ^ t ≤ 128) (by omega) (by omega)
  have c2 := mul_abs b2 (⟨by omega, h128⟩ : -128 ≤ (2 : Int) ^ t ∧ (2 : Int) ^ t ≤ 128) (by omega) (by omega)
  have e1 := DV.mul q1' hT (by omega) (by omega)
  have e2 := DV.mul q2' hz (by omega) (by omega)
  have e3 := DV.mul q2' hT (by omega) (by omega)
  have e4 := DV.mul q1' hz (by omega) (by omega)
  have r1 := (DV.add e1 e2 (by omega) (by omega)).of (n' := m1 * 2 ^ (t + t)) (by rw [Int.mul_zero, Int.add_zero, Int.mul_assoc, ← Int.pow_add])
  have r2 := (DV.sub e3 e4 (by omega) (by omega)).of (n' := m2 * 2 ^ (t + t)) (by rw [Int.mul_zero, Int.sub_zero, Int.mul_assoc, ← Int.pow_add])
  exact ⟨DV.div r1 hs' (by omega) (by omega), DV.div r2 hs' (by omega) (by omega)⟩
theorem dv_back' {t : Nat} {T : Nat} (ht : t ≤ 7) (ha1 : DV a.1 m1 2) (ha2 : DV a.2 m2 2) (h1 : -128 ≤ m1 ∧ m1 ≤ 128) (h2 : -128 ≤ m2 ∧ m2 ≤ 128) (hT : DV T (2 ^ t) 0) : DV (zdiv (zmul a (0, T)) (0, T)).1 m1 2 ∧ DV (zdiv (zmul a (0, T)) (0, T)).2 m2 2 := by
  have hz := dv_zero
  have h128 : (2 : Int) ^ t ≤ 128 := by
    have : t = 0 ∨ t = 1 ∨ t = 2 ∨ t = 3 ∨ t = 4 ∨ t = 5 ∨ t = 6 ∨ t = 7 := by omega
    rcases this with rfl | rfl | rfl | rfl | rfl | rfl | rfl | rfl <;> decide
  have hpos := ipos t
  obtain ⟨q1, q2⟩ := dv_zmul (b := (0, T)) (B := 128) (C := 128) ha1 ha2 hz hT h1 h2 ⟨by omega, by omega⟩ ⟨by omega, h128⟩ (by omega) (by omega) (by omega) (by omega)
  have b1 := mul_abs h1 (⟨by omega, h128⟩ : -128 ≤ (2 : Int) ^ t ∧ (2 : Int) ^ t ≤ 128) (by omega) (by omega)
  have b2 := mul_abs h2 (⟨by omega, h128⟩ : -128 ≤ (2 : Int) ^ t ∧ (2 : Int) ^ t ≤ 128) (by omega) (by omega)
  have q1' := q1.of (n' := -(m2 * 2 ^ t)) (by rw [Int.mul_zero, Int.zero_sub])
  have q2' := q2.of (n' := m1 * 2 ^ t) (by rw [Int.mul_zero, Int.add_zero])
  have hs := dv_zsize (a := (0, T)) (B := 128) hz hT ⟨by omega, by omega⟩ ⟨by omega, h128⟩ (by omega) (by omega) (by omega)
  have hs' := hs.of (n' := 2 ^ (t + t)) (by rw [Int.mul_zero, Int.zero_add, ← Int.pow_add])
  have c1 := mul_abs b1 (⟨by omega, h128⟩ : -128 ≤ (2 : Int) ^ t ∧ (2 : Int) ^ t ≤ 128) (by omega) (by omega)
  have c2 := mul_abs b2 (⟨by omega, h128⟩ : -128 ≤ (2 : Int) ^ t ∧ (2 : Int) ^ t ≤ 128) (by omega) (by omega)
  have e1 := DV.mul q1' hz (by omega) (by omega)
  have e2 := DV.mul q2' hT (by omega) (by omega)
  have e3 := DV.mul q2' hz (by omega) (by omega)
  have e4 := DV.mul q1' hT (by rw [Int.neg_mul]; omega) (by omega)
  have r1 := (DV.add e1 e2 (by omega) (by omega)).of (n' := m1 * 2 ^ (t + t)) (by rw [Int.mul_zero, Int.zero_add, Int.mul_assoc, ← Int.pow_add])
  have r2 := (DV.sub e3 e4 (by rw [Int.neg_mul]; omega) (by omega)).of (n' := m2 * 2 ^ (t + t)) (by rw [Int.mul_zero, Int.zero_sub, Int.neg_mul, Int.neg_neg, Int.mul_assoc, ← Int.pow_add])
  exact ⟨DV.div r1 hs' (by omega) (by omega), DV.div r2 hs' (by omega) (by omega)⟩
end
end Go.Proofs.Ytbcpccmefancoaa.AX
