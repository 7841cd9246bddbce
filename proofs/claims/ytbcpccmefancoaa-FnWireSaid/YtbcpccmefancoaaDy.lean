/- Floats of 64 bits that hold a whole number over a power of two: sums, products and quotients by powers of two of such numbers are exact, as long as the numbers are small. No condition beyond each law's own; nothing of the program. -/
import Derived.Test.YtbcpccmefancoaaAXu
namespace Go.Proofs.Ytbcpccmefancoaa.AX
open Go
set_option maxRecDepth 10000
set_option linter.unusedSimpArgs false
set_option linter.unusedVariables false
theorem pow_pos2 (n : Nat) : 0 < 2 ^ n := Nat.pow_pos (by omega)
theorem pw (n a b c : Nat) (h : a = b + c) : n * 2 ^ a = n * 2 ^ b * 2 ^ c := by rw [h, Nat.pow_add, Nat.mul_assoc]
theorem cut_0 (neg : Bool) (n : Nat) : Ieee.Toward.cut .even neg n 0 = n := by
  unfold Ieee.Toward.cut
  simp [Nat.mod_one]
theorem cut_exact (neg : Bool) (n d : Nat) (hd : d ≤ n.log2) (h : 2 ^ d ∣ n) : Ieee.Toward.cut .even neg n d = n / 2 ^ d := by
  unfold Ieee.Toward.cut
  have hm : min d (n.log2 + 2) = d := by omega
  have hmod : n % 2 ^ d = 0 := Nat.mod_eq_zero_of_dvd h
  have hp := pow_pos2 d
  rw [hm, Nat.one_shiftLeft]
  simp only [hmod, Nat.mul_zero]
  have h1 : ¬ 2 ^ d < 0 := by omega
  have h2 : ¬ 2 ^ d = 0 := by omega
  simp [h1, h2]
/-- The word of a number with just as many digits as the format has, and what it reads as. -/
theorem read_word (neg : Bool) (Q K : Nat) (h1 : 2 ^ 52 ≤ K) (h2 : K < 2 ^ 53) (hQ : Q ≤ 2045) : Ieee.double.read (Ieee.double.word neg (min (Q * Ieee.double.binade + K) Ieee.double.infRung)) = .number neg K ((Q : Int) - 1074) := by
  have e1 : Ieee.double.binade = 4503599627370496 := rfl
  have e2 : Ieee.double.infRung = 9218868437227405312 := rfl
  have e3 : Ieee.double.signWeight = 9223372036854775808 := rfl
  have e4 : Ieee.double.leastPlace = -1074 := rfl
  have h1' : 4503599627370496 ≤ K := h1
  have h2' : K < 9007199254740992 := h2
  have hmin : min (Q * Ieee.double.binade + K) Ieee.double.infRung = Q * 4503599627370496 + K := by rw [e1, e2]; omega
  rw [hmin]
  have hr : Ieee.double.word neg (Q * 4503599627370496 + K) % Ieee.double.signWeight = Q * 4503599627370496 + K := by
    unfold Ieee.Format.word
    rw [e3]
    cases neg
    · simp only [Bool.false_eq_true, if_false]; omega
    · simp only [if_true]; omega
  have hs : (Ieee.double.word neg (Q * 4503599627370496 + K) / Ieee.double.signWeight % 2 == 1) = neg := by
    unfold Ieee.Format.word
    rw [e3]
    cases neg
    · simp only [Bool.false_eq_true, if_false]
      have : (Q * 4503599627370496 + K) / 9223372036854775808 = 0 := by omega
      rw [this]; rfl
    · simp only [if_true]
      have : (9223372036854775808 + (Q * 4503599627370496 + K)) / 9223372036854775808 = 1 := by omega
      rw [this]; rfl
  unfold Ieee.Format.read
  rw [hr, hs, e1, e2, e4]
  have hd : (Q * 4503599627370496 + K) / 4503599627370496 = Q + 1 := by omega
  have hm : (Q * 4503599627370496 + K) % 4503599627370496 = K - 4503599627370496 := by omega
  rw [if_neg (by omega), if_pos (by omega), hd, hm]
  have a1 : 4503599627370496 + (K - 4503599627370496) = K := by omega
  have a2 : (-1074 : Int) + ((Q + 1 - 1 : Nat) : Int) = (Q : Int) - 1074 := by omega
  rw [a1, a2]
theorem read_zero (neg : Bool) : Ieee.double.read (Ieee.double.word neg 0) = .number neg 0 (-1074) := by cases neg <;> decide
/-- A number that fits is written as it is. -/
theorem write_exact (neg : Bool) (mag A U k n e : Nat) (he : e = 1074) (P : Int) (hP : P = (A : Int) - U - k) (hv : mag * 2 ^ A = n * 2 ^ U) (hn : n < 2 ^ 53) (hk : k ≤ 500) :
    ∃ m q : Nat, Ieee.double.read (Ieee.double.nearest neg mag P) = .number neg m ((q : Int) - 1074) ∧ m < 2 ^ 53 ∧ q ≤ 2045 ∧ m * 2 ^ (q + k) = n * 2 ^ e := by
  unfold Ieee.Format.nearest
  by_cases h0 : mag = 0
  · subst h0
    rw [if_pos rfl, read_zero]
    rw [Nat.zero_mul] at hv
    have hU := pow_pos2 U
    have hn0 : n = 0 := by
      rcases Nat.mul_eq_zero.1 hv.symm with h | h
      · exact h
      · omega
    clear hv hn
    subst hn0
    have h1 : Ieee.Datum.number neg 0 (-1074) = .number neg 0 (((0 : Nat) : Int) - 1074) := rfl
    have h2 : ∀ z : Nat, 0 * 2 ^ (0 + k) = 0 * 2 ^ z := fun z => by rw [Nat.zero_mul, Nat.zero_mul]
    exact ⟨0, 0, h1, pow_pos2 53, Nat.zero_le _, h2 e⟩
  · rw [if_neg h0]
    have hfb : (Ieee.double.fractionBits : Int) = 52 := rfl
    have hlp : Ieee.double.leastPlace = -1074 := rfl
    generalize hL : mag.log2 = L
    have hlo : 2 ^ L ≤ mag := by rw [← hL]; exact Nat.log2_self_le h0
    have hhi : mag < 2 ^ (L + 1) := by rw [← hL]; exact Nat.lt_log2_self
    have hnpos : 1 ≤ n := by
      rcases Nat.eq_zero_or_pos n with h | h
      · rw [h, Nat.zero_mul] at hv
        rcases Nat.mul_eq_zero.1 hv with h | h
        · exact absurd h h0
        · have := pow_pos2 A; omega
      · exact h
    -- how great the number is
    have hup : L + A < 53 + U := by
      have h1 : 2 ^ (L + A) ≤ mag * 2 ^ A := by rw [Nat.pow_add]; exact Nat.mul_le_mul_right _ hlo
      have h2 : n * 2 ^ U < 2 ^ (53 + U) := by rw [Nat.pow_add]; exact Nat.mul_lt_mul_of_pos_right hn (pow_pos2 U)
      exact (Nat.pow_lt_pow_iff_right (by omega : 1 < 2)).1 (Nat.lt_of_le_of_lt (hv ▸ h1) h2)
    have hdn : U < L + 1 + A := by
      have h1 : mag * 2 ^ A < 2 ^ (L + 1 + A) := by rw [Nat.pow_add 2 (L + 1)]; exact Nat.mul_lt_mul_of_pos_right hhi (pow_pos2 A)
      have h2 : 2 ^ U ≤ n * 2 ^ U := Nat.le_mul_of_pos_left _ hnpos
      exact (Nat.pow_lt_pow_iff_right (by omega : 1 < 2)).1 (Nat.lt_of_le_of_lt (hv ▸ h2) h1)
    have hlast : max (P + (L : Int) - (Ieee.double.fractionBits : Int)) Ieee.double.leastPlace = P + L - 52 := by rw [hfb, hlp]; omega
    obtain ⟨Q, hQ⟩ : ∃ Q : Nat, P + (L : Int) - 52 = (Q : Int) - 1074 := ⟨(P + (L : Int) - 52 + 1074).toNat, by omega⟩
    have hkept : ∃ K, Ieee.Toward.cut .even neg (mag <<< (P - (P + (L : Int) - 52)).toNat) ((P + (L : Int) - 52) - P).toNat = K ∧ K * 2 ^ L = mag * 2 ^ 52 := by
      by_cases hL52 : L ≤ 52
      · rw [show ((P + (L : Int) - 52) - P).toNat = 0 by omega, show (P - (P + (L : Int) - 52)).toNat = 52 - L by omega, cut_0, Nat.shiftLeft_eq]
        refine ⟨_, rfl, ?_⟩
        rw [Nat.mul_assoc, ← Nat.pow_add, show 52 - L + L = 52 by omega]
      · rw [show ((P + (L : Int) - 52) - P).toNat = L - 52 by omega, show (P - (P + (L : Int) - 52)).toNat = 0 by omega, Nat.shiftLeft_zero]
        have hAU : A ≤ U := by
          rcases Nat.lt_or_ge U A with h | h
          · omega
          · exact h
        have hmag : mag = n * 2 ^ (U - A) := by
          have : mag * 2 ^ A = n * 2 ^ (U - A) * 2 ^ A := by rw [hv, Nat.mul_assoc, ← Nat.pow_add, show U - A + A = U by omega]
          exact Nat.eq_of_mul_eq_mul_right (pow_pos2 A) this
        have hdvd : 2 ^ (L - 52) ∣ mag := by
          rw [hmag]
          exact Nat.dvd_trans (Nat.pow_dvd_pow 2 (by omega)) (Nat.dvd_mul_left _ _)
        rw [cut_exact _ _ _ (by omega) hdvd]
        refine ⟨_, rfl, ?_⟩
        obtain ⟨c, hc⟩ := hdvd
        rw [hc, Nat.mul_div_cancel_left _ (pow_pos2 _), Nat.mul_comm (2 ^ (L - 52)) c, Nat.mul_assoc, ← Nat.pow_add, show L - 52 + 52 = L by omega]
    obtain ⟨K, hK, hKL⟩ := hkept
    have hK1 : 2 ^ 52 ≤ K := by
      have h1 : 2 ^ 52 * 2 ^ L ≤ K * 2 ^ L := by rw [hKL, Nat.mul_comm]; exact Nat.mul_le_mul_right _ hlo
      exact Nat.le_of_mul_le_mul_right h1 (pow_pos2 L)
    have hK2 : K < 2 ^ 53 := by
      have h1 : K * 2 ^ L < 2 ^ 53 * 2 ^ L := by
        rw [hKL]
        have h2 : mag * 2 ^ 52 < 2 ^ (L + 1) * 2 ^ 52 := Nat.mul_lt_mul_of_pos_right hhi (pow_pos2 52)
        have h3 : 2 ^ (L + 1) * 2 ^ 52 = 2 ^ 53 * 2 ^ L := by rw [← Nat.pow_add, ← Nat.pow_add]; congr 1; omega
        omega
      exact Nat.lt_of_mul_lt_mul_right h1
    simp only [hlast, hK]
    rw [show (P + (L : Int) - 52 - Ieee.double.leastPlace).toNat = Q by rw [hlp]; omega, read_word neg Q K hK1 hK2 (by omega)]
    refine ⟨K, Q, rfl, hK2, by omega, ?_⟩
    have h1 : K * 2 ^ (Q + k) * 2 ^ (L + A) = n * 2 ^ e * 2 ^ (L + A) := by
      have h2 : K * 2 ^ (Q + k) * 2 ^ (L + A) = K * 2 ^ L * 2 ^ A * 2 ^ (Q + k) := by rw [Nat.pow_add 2 L A]; ac_rfl
      have h3 : mag * 2 ^ 52 * 2 ^ A * 2 ^ (Q + k) = n * 2 ^ (U + 52 + (Q + k)) := by
        have : mag * 2 ^ 52 * 2 ^ A * 2 ^ (Q + k) = mag * 2 ^ A * 2 ^ 52 * 2 ^ (Q + k) := by ac_rfl
        rw [this, hv, Nat.mul_assoc, Nat.mul_assoc, ← Nat.pow_add, ← Nat.pow_add, Nat.add_assoc]
      rw [h2, hKL, h3]
      exact pw n _ _ _ (by omega)
    exact Nat.eq_of_mul_eq_mul_right (pow_pos2 (L + A)) h1
def sg (s : Bool) (m : Nat) : Int := if s = true then -(m : Int) else m
/-- The float's bits stand for n over 2 ^ k. -/
def DV (x : Nat) (n : Int) (k : Nat) : Prop := ∃ (s : Bool) (m q : Nat), Ieee.double.read x = .number s m ((q : Int) - 1074) ∧ m < 2 ^ 53 ∧ q ≤ 2045 ∧ sg s m * 2 ^ (q + k) = n * 2 ^ 1074
theorem ipos (n : Nat) : (0 : Int) < 2 ^ n := Int.pow_pos (by omega)
theorem cast_eq {m n a b : Nat} (h : m * 2 ^ a = n * 2 ^ b) : (m : Int) * 2 ^ a = (n : Int) * 2 ^ b := by exact_mod_cast h
theorem cast_pow {m a b c : Nat} (h : (m : Int) * 2 ^ a = 2 ^ b * 2 ^ c) : m * 2 ^ a = 2 ^ (b + c) := by
  rw [← Int.pow_add] at h
  exact_mod_cast h
theorem sg_abs (s : Bool) (m : Nat) : (sg s m).natAbs = m := by cases s <;> simp [sg]
theorem DV.write {neg : Bool} {mag A U k : Nat} {n : Int} {P : Int} (hP : P = (A : Int) - U - k) (hv : sg neg mag * 2 ^ A = n * 2 ^ U) (hn : n.natAbs < 2 ^ 53) (hk : k ≤ 500) : DV (Ieee.double.nearest neg mag P) n k := by
  have h1 : mag * 2 ^ A = n.natAbs * 2 ^ U := by
    have := congrArg Int.natAbs hv
    rw [Int.natAbs_mul, Int.natAbs_mul, sg_abs, Int.natAbs_pow, Int.natAbs_pow] at this
    exact this
  obtain ⟨m, q, h2, h3, h4, h5⟩ := write_exact neg mag A U k n.natAbs 1074 rfl P hP h1 hn hk
  refine ⟨neg, m, q, h2, h3, h4, ?_⟩
  have key : n = sg neg n.natAbs := by
    clear h2 h5
    have hA := ipos A
    have hU := ipos U
    cases neg
    · have h7 : 0 ≤ n := by
        have h8 : (0 : Int) ≤ n * 2 ^ U := by
          rw [← hv]
          exact Int.mul_nonneg (by show (0 : Int) ≤ (mag : Int); omega) (Int.le_of_lt hA)
        exact Int.nonneg_of_mul_nonneg_left h8 hU
      show n = (n.natAbs : Int)
      omega
    · have h7 : n ≤ 0 := by
        have h8 : n * 2 ^ U ≤ 0 := by
          rw [← hv]
          have h9 : (0 : Int) ≤ (mag : Int) * 2 ^ A := Int.mul_nonneg (by omega) (Int.le_of_lt hA)
          rw [show sg true mag = -(mag : Int) from rfl, Int.neg_mul]
          omega
        rcases Int.lt_or_le 0 n with h9 | h9
        · have := Int.mul_pos h9 hU
          omega
        · exact h9
      show n = -(n.natAbs : Int)
      omega
  have h6 : ((m : Int)) * 2 ^ (q + k) = (n.natAbs : Int) * 2 ^ 1074 := cast_eq h5
  have h7 : sg neg m * 2 ^ (q + k) = sg neg n.natAbs * 2 ^ 1074 := by
    cases neg
    · exact h6
    · show -(m : Int) * 2 ^ (q + k) = -(n.natAbs : Int) * 2 ^ 1074
      rw [Int.neg_mul, Int.neg_mul, h6]
  rwa [← key] at h7
theorem DV.scale {x k : Nat} {n : Int} (h : DV x n k) (j : Nat) : DV x (n * 2 ^ j) (k + j) := by
  obtain ⟨s, m, q, h1, h2, h3, h4⟩ := h
  refine ⟨s, m, q, h1, h2, h3, ?_⟩
  rw [← Nat.add_assoc, Int.pow_add, ← Int.mul_assoc, h4]
  ac_rfl
theorem sg_mul (s t : Bool) (m n : Nat) : sg (s ^^ t) (m * n) = sg s m * sg t n := by cases s <;> cases t <;> simp [sg, Int.neg_mul, Int.mul_neg]
theorem signed_sg (s : Bool) (m u : Nat) : Ieee.signed s m u = sg s m * 2 ^ u := by
  unfold Ieee.signed sg
  rw [Nat.shiftLeft_eq]
  cases s <;> simp [Int.neg_mul]
theorem sg_total (b : Bool) (t : Int) : sg (if t = 0 then b else decide (t < 0)) t.natAbs = t := by
  unfold sg
  by_cases h : t = 0
  · subst h; simp
  · rw [if_neg h]
    by_cases h1 : t < 0
    · rw [if_pos (decide_eq_true h1)]; omega
    · rw [if_neg (by simp [h1])]; omega
theorem f64_read (x : Nat) : FloatKind.f64.format.read x = Ieee.double.read x := rfl
theorem DV.add_ {s t : Bool} {m n q1 q2 k : Nat} {a b : Int} (e1 : sg s m * 2 ^ (q1 + k) = a * 2 ^ 1074) (e2 : sg t n * 2 ^ (q2 + k) = b * 2 ^ 1074) (hn : (a + b).natAbs < 2 ^ 53) (hk : k ≤ 500) :
    ∃ d, Ieee.Datum.sum (.number s m ((q1 : Int) - 1074)) (.number t n ((q2 : Int) - 1074)) = some d ∧ DV (Ieee.double.write d) (a + b) k := by
  refine ⟨_, rfl, ?_⟩
  show DV (Ieee.double.nearest _ _ _) _ _
  generalize hb : min ((q1 : Int) - 1074) ((q2 : Int) - 1074) = base
  have hmin : base = ((min q1 q2 : Nat) : Int) - 1074 := by omega
  have hu1 : ((q1 : Int) - 1074 - base).toNat = q1 - min q1 q2 := by omega
  have hu2 : ((q2 : Int) - 1074 - base).toNat = q2 - min q1 q2 := by omega
  rw [signed_sg, signed_sg, hu1, hu2]
  refine DV.write (A := min q1 q2 + k) (U := 1074) (by omega) ?_ hn hk
  rw [sg_total, Int.add_mul, Int.mul_assoc, Int.mul_assoc, ← Int.pow_add, ← Int.pow_add, show q1 - min q1 q2 + (min q1 q2 + k) = q1 + k by omega, show q2 - min q1 q2 + (min q1 q2 + k) = q2 + k by omega, e1, e2, ← Int.add_mul]
theorem DV.add {x y k : Nat} {a b : Int} (h1 : DV x a k) (h2 : DV y b k) (hn : (a + b).natAbs < 2 ^ 53) (hk : k ≤ 500) : DV (fadd .f64 x y) (a + b) k := by
  obtain ⟨s, m, q1, r1, _, _, e1⟩ := h1
  obtain ⟨t, n, q2, r2, _, _, e2⟩ := h2
  obtain ⟨d, h3, h4⟩ := DV.add_ e1 e2 hn hk
  unfold fadd Ieee.Format.add
  rw [f64_read, f64_read, r1, r2, h3]
  exact h4
theorem DV.sub {x y k : Nat} {a b : Int} (h1 : DV x a k) (h2 : DV y b k) (hn : (a - b).natAbs < 2 ^ 53) (hk : k ≤ 500) : DV (fsub .f64 x y) (a - b) k := by
  obtain ⟨s, m, q1, r1, _, _, e1⟩ := h1
  obtain ⟨t, n, q2, r2, _, _, e2⟩ := h2
  have e2' : sg (!t) n * 2 ^ (q2 + k) = (-b) * 2 ^ 1074 := by
    have : sg (!t) n = -(sg t n) := by cases t <;> simp [sg]
    rw [this, Int.neg_mul, e2, Int.neg_mul]
  rw [Int.sub_eq_add_neg] at hn ⊢
  obtain ⟨d, h3, h4⟩ := DV.add_ e1 e2' hn hk
  unfold fsub Ieee.Format.sub
  rw [f64_read, f64_read, r1, r2]
  have : (Ieee.Datum.number t n ((q2 : Int) - 1074)).opposite = .number (!t) n ((q2 : Int) - 1074) := rfl
  rw [this, h3]
  exact h4
theorem DV.mul {x y k l : Nat} {a b : Int} (h1 : DV x a k) (h2 : DV y b l) (hn : (a * b).natAbs < 2 ^ 53) (hk : k + l ≤ 500) : DV (fmul .f64 x y) (a * b) (k + l) := by
  obtain ⟨s, m, q1, r1, _, _, e1⟩ := h1
  obtain ⟨t, n, q2, r2, _, _, e2⟩ := h2
  unfold fmul Ieee.Format.mul
  rw [f64_read, f64_read, r1, r2]
  show DV (Ieee.double.nearest (s ^^ t) (m * n) ((q1 : Int) - 1074 + ((q2 : Int) - 1074))) _ _
  refine DV.write (A := q1 + k + (q2 + l)) (U := 1074 + 1074) (by omega) ?_ hn hk
  rw [sg_mul, Int.pow_add, Int.pow_add 2 1074]
  have : sg s m * sg t n * (2 ^ (q1 + k) * 2 ^ (q2 + l)) = (sg s m * 2 ^ (q1 + k)) * (sg t n * 2 ^ (q2 + l)) := by ac_rfl
  rw [this, e1, e2]
  ac_rfl
theorem DV.int {n : Int} (hn : n.natAbs < 2 ^ 53) : DV (FloatKind.f64.nearest n) n 0 := by
  show DV (Ieee.double.nearest (decide (n < 0)) n.natAbs 0) n 0
  refine DV.write (A := 0) (U := 0) (by omega) ?_ hn (by omega)
  have := sg_total false n
  by_cases h : n = 0
  · subst h; rfl
  · rw [if_neg h] at this
    rw [this]
/-- Divided by a power of two. -/
theorem DV.div {x y k r : Nat} {c : Int} (h1 : DV x (c * 2 ^ r) k) (h2 : DV y (2 ^ r) 0) (hn : c.natAbs < 2 ^ 53) (hk : k ≤ 500) : DV (fdiv .f64 x y) c k := by
  obtain ⟨s, m, q1, r1, m1, _, e1⟩ := h1
  obtain ⟨t, n, q2, r2, n1, _, e2⟩ := h2
  -- the divisor is a power of two
  have ht : t = false := by
    cases t
    · rfl
    · exfalso
      have h3 : (0 : Int) < 2 ^ r * 2 ^ 1074 := Int.mul_pos (ipos _) (ipos _)
      rw [← e2] at h3
      have h4 : (0 : Int) ≤ (n : Int) * 2 ^ (q2 + 0) := Int.mul_nonneg (by omega) (Int.le_of_lt (ipos _))
      rw [show sg true n = -(n : Int) from rfl, Int.neg_mul] at h3
      omega
  subst ht
  have e3 : n * 2 ^ q2 = 2 ^ (r + 1074) := by
    exact cast_pow e2
  obtain ⟨e, he, hle⟩ : ∃ e, n = 2 ^ e ∧ e + q2 = r + 1074 := by
    rcases Nat.lt_or_ge (r + 1074) q2 with h3 | h3
    · exfalso
      have h4 : n * 2 ^ (q2 - (r + 1074)) * 2 ^ (r + 1074) = 1 * 2 ^ (r + 1074) := by rw [Nat.mul_assoc, ← Nat.pow_add, show q2 - (r + 1074) + (r + 1074) = q2 by omega, e3, Nat.one_mul]
      have h5 := Nat.eq_of_mul_eq_mul_right (pow_pos2 _) h4
      obtain ⟨d, hd⟩ : ∃ d, q2 - (r + 1074) = d + 1 := ⟨q2 - (r + 1074) - 1, by omega⟩
      rw [hd, Nat.pow_succ, ← Nat.mul_assoc] at h5
      omega
    · refine ⟨r + 1074 - q2, ?_, by omega⟩
      have h4 : n * 2 ^ q2 = 2 ^ (r + 1074 - q2) * 2 ^ q2 := by rw [e3, ← Nat.pow_add, show r + 1074 - q2 + q2 = r + 1074 by omega]
      exact Nat.eq_of_mul_eq_mul_right (pow_pos2 _) h4
  have hlog : n.log2 = e := by rw [he, Nat.log2_two_pow]
  have hml : m.log2 ≤ 52 := by
    by_cases h0 : m = 0
    · rw [h0]; decide
    · have := Nat.log2_self_le h0
      have h3 : 2 ^ m.log2 < 2 ^ 53 := Nat.lt_of_le_of_lt this m1
      have := (Nat.pow_lt_pow_iff_right (by omega : 1 < 2)).1 h3
      omega
  unfold fdiv Ieee.Format.div
  rw [f64_read, f64_read, r1, r2]
  have hn0 : ¬ n = 0 := by rw [he]; have := pow_pos2 e; omega
  have hq : Ieee.Datum.quotient (FloatKind.f64.format.fractionBits + 2) (.number s m ((q1 : Int) - 1074)) (.number false n ((q2 : Int) - 1074)) =
      some (.number (s ^^ false) (2 * (m <<< (54 + e - m.log2) / n) + (m <<< (54 + e - m.log2) % n != 0).toNat) ((q1 : Int) - 1074 - ((q2 : Int) - 1074) - ((54 + e - m.log2 : Nat) : Int) - 1)) := by
    unfold Ieee.Datum.quotient
    dsimp only
    rw [if_neg hn0, hlog]
    rfl
  rw [hq]
  generalize hmore : 54 + e - m.log2 = more
  have hme : e + 2 ≤ more := by omega
  have hdiv : m <<< more / n = m * 2 ^ (more - e) := by
    rw [Nat.shiftLeft_eq, he, show more = (more - e) + e by omega, Nat.pow_add, ← Nat.mul_assoc, Nat.mul_div_cancel _ (pow_pos2 e), show more - e + e - e = more - e by omega]
  have hmod : m <<< more % n = 0 := by
    rw [Nat.shiftLeft_eq, he, show more = (more - e) + e by omega, Nat.pow_add, ← Nat.mul_assoc, Nat.mul_mod_left]
  rw [hdiv, hmod]
  show DV (Ieee.double.nearest (s ^^ false) (2 * (m * 2 ^ (more - e)) + 0) ((q1 : Int) - 1074 - ((q2 : Int) - 1074) - (more : Int) - 1)) c k
  refine DV.write (A := q1 + k) (U := q2 + more + 1) (by omega) ?_ hn hk
  have hs : sg (s ^^ false) (2 * (m * 2 ^ (more - e)) + 0) = sg s m * 2 ^ (more - e + 1) := by
    rw [Nat.add_zero, Nat.mul_comm 2, Nat.mul_assoc, ← Nat.pow_succ]
    cases s <;> simp [sg, Int.neg_mul]
  rw [hs]
  have h5 : sg s m * 2 ^ (more - e + 1) * 2 ^ (q1 + k) = c * 2 ^ r * 2 ^ 1074 * 2 ^ (more - e + 1) := by rw [← e1]; ac_rfl
  rw [h5, Int.mul_assoc, Int.mul_assoc, ← Int.pow_add, ← Int.pow_add]
  congr 2
  omega
theorem DV.order {x y k : Nat} {a b : Int} (h1 : DV x a k) (h2 : DV y b k) : FloatKind.f64.format.order x y = some (compare a b) := by
  obtain ⟨s, m, q1, r1, _, _, e1⟩ := h1
  obtain ⟨t, n, q2, r2, _, _, e2⟩ := h2
  unfold Ieee.Format.order
  rw [f64_read, f64_read, r1, r2]
  show some (compare (Ieee.signed s m ((q1 : Int) - 1074 - min ((q1 : Int) - 1074) ((q2 : Int) - 1074)).toNat) (Ieee.signed t n ((q2 : Int) - 1074 - min ((q1 : Int) - 1074) ((q2 : Int) - 1074)).toNat)) = _
  rw [signed_sg, signed_sg, show ((q1 : Int) - 1074 - min ((q1 : Int) - 1074) ((q2 : Int) - 1074)).toNat = q1 - min q1 q2 by omega, show ((q2 : Int) - 1074 - min ((q1 : Int) - 1074) ((q2 : Int) - 1074)).toNat = q2 - min q1 q2 by omega]
  congr 1
  -- both sides, times the same power of two
  have f1 : sg s m * 2 ^ (q1 - min q1 q2) * 2 ^ (min q1 q2 + k) = a * 2 ^ 1074 := by rw [Int.mul_assoc, ← Int.pow_add, show q1 - min q1 q2 + (min q1 q2 + k) = q1 + k by omega, e1]
  have f2 : sg t n * 2 ^ (q2 - min q1 q2) * 2 ^ (min q1 q2 + k) = b * 2 ^ 1074 := by rw [Int.mul_assoc, ← Int.pow_add, show q2 - min q1 q2 + (min q1 q2 + k) = q2 + k by omega, e2]
  generalize sg s m * 2 ^ (q1 - min q1 q2) = X at f1
  generalize sg t n * 2 ^ (q2 - min q1 q2) = Y at f2
  have hp := ipos (min q1 q2 + k)
  have hq := ipos 1074
  have lt : X < Y ↔ a < b := by
    rw [← Int.mul_lt_mul_right hp, f1, f2, Int.mul_lt_mul_right hq]
  have gt : Y < X ↔ b < a := by
    rw [← Int.mul_lt_mul_right hp, f1, f2, Int.mul_lt_mul_right hq]
  rcases Int.lt_trichotomy X Y with h | h | h
  · have h' := lt.1 h
    rw [Int.compare_eq_lt.2 h, Int.compare_eq_lt.2 h']
  · have h1' : ¬ a < b := fun h2 => by have := lt.2 h2; omega
    have h2' : ¬ b < a := fun h2 => by have := gt.2 h2; omega
    have : a = b := by omega
    rw [h, this]
    simp
  · have h' := gt.1 h
    rw [Int.compare_eq_gt.2 h, Int.compare_eq_gt.2 h']
theorem DV.feq {x y k : Nat} {a b : Int} (h1 : DV x a k) (h2 : DV y b k) : feq .f64 x y = decide (a = b) := by
  unfold AX.feq
  rw [DV.order h1 h2]
  rcases Int.lt_trichotomy a b with h | h | h
  · rw [Int.compare_eq_lt.2 h]; simp; omega
  · subst h; simp
  · rw [Int.compare_eq_gt.2 h]; simp; omega
end Go.Proofs.Ytbcpccmefancoaa.AX
