/- The stable sort, whole. No condition beyond each law's own; of the program: the functions' forms. -/
import Derived.Test.YtjjglonmaajjoaaSry
namespace Go.Proofs.Ytjjglonmaajjoaa.AX
open Go
set_option maxRecDepth 10000
set_option maxHeartbeats 4000000
set_option linter.unusedSimpArgs false
set_option linter.unusedVariables false
/-- A block that is sorted, out of the same block. -/
structure Blk {X : Type} (lt : X → X → Prop) (c d : Nat) (f0 f : Nat → X) : Prop where
  s : Srt lt c d f
  into : ∀ k, c ≤ k → k < d → ∃ q, c ≤ q ∧ q < d ∧ f k = f0 q
  onto : ∀ k, c ≤ k → k < d → ∃ q, c ≤ q ∧ q < d ∧ f0 k = f q
section
variable {X : Type} {lt bf : X → X → Prop} {ls : X → X → Bool} {f0 f g : Nat → X} {c d a b m n bs : Nat}
theorem Blk.same (h : Blk lt c d f0 f) (e : ∀ k, c ≤ k → k < d → g k = f k) : Blk lt c d f0 g :=
  ⟨fun i j h1 h2 h3 => by rw [e i h1 (by omega), e j (by omega) h3]; exact h.s i j h1 h2 h3,
   fun k h1 h2 => by rw [e k h1 h2]; exact h.into k h1 h2,
   fun k h1 h2 => by obtain ⟨q, q1, q2, q3⟩ := h.onto k h1 h2; exact ⟨q, q1, q2, by rw [e q q1 q2]; exact q3⟩⟩
theorem Blk.of (hf : ∀ k, c ≤ k → k < d → f k = f0 k) (hr : Rl c d f g) (hs : Srt lt c d g) : Blk lt c d f0 g :=
  ⟨hs, fun k h1 h2 => by obtain ⟨q, q1, q2, q3⟩ := hr.into k h1 h2; exact ⟨q, q1, q2, q3.trans (hf q q1 q2)⟩,
   fun k h1 h2 => by obtain ⟨q, q1, q2, q3⟩ := hr.onto k h1 h2; exact ⟨q, q1, q2, (hf k h1 h2).symm.trans q3⟩⟩
theorem Blk.join (h1 : Blk lt a m f0 f) (h2 : Blk lt m b f0 f) (hr : Rl a b f g) (hs : Srt lt a b g) (ha : a ≤ m) (hb : m ≤ b) : Blk lt a b f0 g := by
  refine ⟨hs, fun k q1 q2 => ?_, fun k q1 q2 => ?_⟩
  · obtain ⟨x, x1, x2, x3⟩ := hr.into k q1 q2
    by_cases e : x < m
    · obtain ⟨y, y1, y2, y3⟩ := h1.into x x1 e; exact ⟨y, y1, by omega, x3.trans y3⟩
    · obtain ⟨y, y1, y2, y3⟩ := h2.into x (by omega) x2; exact ⟨y, by omega, y2, x3.trans y3⟩
  · by_cases e : k < m
    · obtain ⟨y, y1, y2, y3⟩ := h1.onto k q1 e
      obtain ⟨x, x1, x2, x3⟩ := hr.onto y y1 (by omega)
      exact ⟨x, x1, x2, y3.trans x3⟩
    · obtain ⟨y, y1, y2, y3⟩ := h2.onto k (by omega) q2
      obtain ⟨x, x1, x2, x3⟩ := hr.onto y (by omega) y2
      exact ⟨x, x1, x2, y3.trans x3⟩
theorem Blk.mg (h1 : Blk lt a m f0 f) (h2 : Blk lt m b f0 f) (hbf : ∀ i j, i < j → j < n → bf (f0 i) (f0 j)) (hb : b ≤ n) : Mg lt bf a m b f :=
  ⟨h1.s, h2.s, fun i j q1 q2 q3 q4 => by
    obtain ⟨x, x1, x2, x3⟩ := h1.into i q1 q2
    obtain ⟨y, y1, y2, y3⟩ := h2.into j q3 q4
    rw [x3, y3]
    exact hbf x y (by omega) (by omega)⟩
/-- All blocks of a size. -/
def AllB (lt : X → X → Prop) (bs n : Nat) (f0 f : Nat → X) : Prop := ∀ c, bs ∣ c → c < n → Blk lt c (min (c + bs) n) f0 f
end
theorem dvd_eq {d c a : Nat} (h1 : d ∣ c) (h2 : d ∣ a) (h3 : a ≤ c) (h4 : c < a + d) : c = a := by
  have h := Nat.dvd_sub h1 h2
  by_cases e : c - a = 0
  · omega
  · have := Nat.le_of_dvd (by omega) h
    omega
section
variable {H : Heap} {a N : Nat} {f : Nat → Rnn} {va : Value}
theorem r_stable (R : Rw H a N f) (hva : va = .slice (some ⟨a, 0, none⟩) N 4) (hN : N ≤ 1000000) (hbf : ∀ i j, i < j → j < N → bfR (f i) (f j)) : Run Try.prog 87 [va, .int .i64 (N : Int), cmpV] H fun r H' => Rk a H H' ∧ (∃ g, Rw H' a N g ∧ (0 < N → Blk ltR 0 N f g)) ∧ r = .tuple #[] := by
  refine Run.intro c87 rfl ?_
  simp (maxSteps := 4000000) (disch := omega) only [Zq, evO, vbox, wr, Zeq, if_true, if_false, Nat.reduceEqDiff, Nat.reduceAdd, Nat.reduceLeDiff, Nat.reduceSub, and_self, and_true, true_and, reduceIte, reduceCtorEq, eq_self, implies_true, forall_const, false_implies, imp_self, decide_true, decide_false, x87]
  refine G_loopF [0, 1, 2, 6] (N) (fun k T H1 => ∃ (c : Nat) (g : Nat → Rnn), T 7 = .int .i64 (c : Int) ∧ T 8 = .int .i64 ((c + 20 : Nat) : Int) ∧ k = N - c ∧ 20 ∣ c ∧ c ≤ N ∧ Rk a H H1 ∧ Rw H1 a N g ∧ (∀ x, 20 ∣ x → x < c → Blk ltR x (x + 20) f g) ∧ ∀ x, c ≤ x → g x = f x) ?_ ?_
  · simp (maxSteps := 4000000) (disch := omega) only [Zq, evO, vbox, wr, Zeq, if_true, if_false, Nat.reduceEqDiff, Nat.reduceAdd, Nat.reduceLeDiff, Nat.reduceSub, and_self, and_true, true_and, reduceIte, reduceCtorEq, eq_self, implies_true, forall_const, false_implies, imp_self, decide_true, decide_false, fix_nil, fix_cons]
    exact ⟨0, f, rfl, rfl, rfl, Nat.dvd_zero _, Nat.zero_le _, Rk.refl _ _, R, fun x _ h => by omega, fun x _ => rfl⟩
  rintro k T H1 hT ⟨c, g, t7, t8, hk, hd, hc, k1, R1, hB, hg⟩
  simp only [fix_nil, fix_cons, Zq, evO, vbox, wr, Zeq, if_true, if_false, Nat.reduceEqDiff, Nat.reduceAdd, Nat.reduceLeDiff, Nat.reduceSub, and_self, and_true, true_and, reduceIte, reduceCtorEq, eq_self, implies_true, forall_const, false_implies, imp_self, decide_true, decide_false] at hT
  obtain ⟨t0, t1, t2, t6⟩ := hT
  have hbf1 : ∀ i j, c ≤ i → i < j → j < N → bfR (g i) (g j) := fun i j q1 q2 q3 => by
    rw [hg i q1, hg j (by omega)]; exact hbf i j q2 q3
  by_cases hb : c + 20 ≤ N
  · have w1 : IntKind.i64.wrap (((c + 20 : Nat) : Int) + 20) = ((c + 20 + 20 : Nat) : Int) := by rw [wrap64 (by omega) (by omega)]; omega
    simp (maxSteps := 4000000) (disch := omega) only [Zq, evO, vbox, wr, Zeq, if_true, if_false, Nat.reduceEqDiff, Nat.reduceAdd, Nat.reduceLeDiff, Nat.reduceSub, and_self, and_true, true_and, reduceIte, reduceCtorEq, eq_self, implies_true, forall_const, false_implies, imp_self, decide_true, decide_false, fix_nil, fix_cons, t0, t1, t2, t6, t7, t8, Zfj (by omega : ((c + 20 : Nat) : Int) ≤ (N : Int))]
    refine GO_call ((r_insertion R1 hva (A := c) (B := c + 20) (by omega) hb hN (fun i j q1 q2 q3 => hbf1 i j q1 q2 (by omega))).mono ?_)
    rintro _ H2 ⟨k2, ⟨gg, R2, L2, S2⟩, rfl⟩
    simp (maxSteps := 4000000) (disch := omega) only [Zq, evO, vbox, wr, Zeq, if_true, if_false, Nat.reduceEqDiff, Nat.reduceAdd, Nat.reduceLeDiff, Nat.reduceSub, and_self, and_true, true_and, reduceIte, reduceCtorEq, eq_self, implies_true, forall_const, false_implies, imp_self, decide_true, decide_false, fix_nil, fix_cons, t0, t1, t2, t6, t7, t8, w1]
    refine ⟨N - (c + 20), by omega, c + 20, gg, rfl, rfl, rfl, (Nat.dvd_add_right hd).2 (Nat.dvd_refl 20), hb, k1.trans k2, R2, fun x q1 q2 => ?_, fun x q1 => ?_⟩
    · by_cases e : x < c
      · exact (hB x q1 e).same (fun y y1 y2 => L2.out y (by
          by_cases z : x + 20 ≤ c
          · omega
          · have := dvd_eq hd q1 (by omega) (by omega); omega))
      · obtain rfl := dvd_eq q1 hd (by omega) (by omega)
        exact Blk.of (fun y y1 _ => hg y y1) L2 S2
    · rw [L2.out x (by omega)]; exact hg x (by omega)
  simp (maxSteps := 4000000) (disch := omega) only [Zq, evO, vbox, wr, Zeq, if_true, if_false, Nat.reduceEqDiff, Nat.reduceAdd, Nat.reduceLeDiff, Nat.reduceSub, and_self, and_true, true_and, reduceIte, reduceCtorEq, eq_self, implies_true, forall_const, false_implies, imp_self, decide_true, decide_false, fix_nil, fix_cons, t0, t1, t2, t6, t7, t8, Zfk (by omega : ¬ ((c + 20 : Nat) : Int) ≤ (N : Int))]
  refine GO_call ((r_insertion R1 hva (A := c) (B := N) hc (Nat.le_refl _) hN hbf1).mono ?_)
  rintro _ H2 ⟨k2, ⟨gg, R2, L2, S2⟩, rfl⟩
  have hA : AllB ltR 20 N f gg := fun x q1 q2 => by
    by_cases e : x < c
    · have e20 : x + 20 ≤ c := by
        by_cases z : x + 20 ≤ c
        · exact z
        · have := dvd_eq hd q1 (by omega) (by omega); omega
      rw [Nat.min_eq_left (by omega)]
      exact (hB x q1 e).same (fun y y1 y2 => L2.out y (by omega))
    · obtain rfl := dvd_eq q1 hd (by omega) (by omega)
      rw [Nat.min_eq_right (by omega)]
      exact Blk.of (fun y y1 _ => hg y y1) L2 S2
  simp (maxSteps := 4000000) (disch := omega) only [Zq, evO, vbox, wr, Zeq, if_true, if_false, Nat.reduceEqDiff, Nat.reduceAdd, Nat.reduceLeDiff, Nat.reduceSub, and_self, and_true, true_and, reduceIte, reduceCtorEq, eq_self, implies_true, forall_const, false_implies, imp_self, decide_true, decide_false, fix_nil, fix_cons, t0, t1, t2, t6, t7, t8]
  refine G_loopF [0, 1, 2] ((N - 20)) (fun k T H3 => ∃ (bs : Nat) (g : Nat → Rnn), T 6 = .int .i64 (bs : Int) ∧ k = N - bs ∧ 0 < bs ∧ bs ≤ 2000000 ∧ Rk a H H3 ∧ Rw H3 a N g ∧ AllB ltR bs N f g) ?_ ?_
  · simp (maxSteps := 4000000) (disch := omega) only [Zq, evO, vbox, wr, Zeq, if_true, if_false, Nat.reduceEqDiff, Nat.reduceAdd, Nat.reduceLeDiff, Nat.reduceSub, and_self, and_true, true_and, reduceIte, reduceCtorEq, eq_self, implies_true, forall_const, false_implies, imp_self, decide_true, decide_false, fix_nil, fix_cons, t0, t1, t2, t6, t7, t8]
    exact ⟨20, gg, rfl, rfl, by omega, by omega, k1.trans k2, R2, hA⟩
  rintro k T H3 hT ⟨bs, g, t6, hk, hbs, hbs2, k3, R3, hAB⟩
  simp only [fix_nil, fix_cons, Zq, evO, vbox, wr, Zeq, if_true, if_false, Nat.reduceEqDiff, Nat.reduceAdd, Nat.reduceLeDiff, Nat.reduceSub, and_self, and_true, true_and, reduceIte, reduceCtorEq, eq_self, implies_true, forall_const, false_implies, imp_self, decide_true, decide_false, t0, t1, t2, t6, t7, t8] at hT
  obtain ⟨t0, t1, t2⟩ := hT
  by_cases hlt : bs < N
  rotate_left
  · simp (maxSteps := 4000000) (disch := omega) only [Zq, evO, vbox, wr, Zeq, if_true, if_false, Nat.reduceEqDiff, Nat.reduceAdd, Nat.reduceLeDiff, Nat.reduceSub, and_self, and_true, true_and, reduceIte, reduceCtorEq, eq_self, implies_true, forall_const, false_implies, imp_self, decide_true, decide_false, fix_nil, fix_cons, t0, t1, t2, t6, t7, t8, Zfi (by omega : ¬ (bs : Int) < (N : Int))]
    refine ⟨k3, g, R3, fun h0 => ?_⟩
    have := hAB 0 (Nat.dvd_zero _) h0
    rwa [Nat.zero_add, Nat.min_eq_right (by omega)] at this
  have w2 : IntKind.i64.wrap (2 * (bs : Int)) = ((2 * bs : Nat) : Int) := by rw [wrap64 (by omega) (by omega)]; omega
  have w3 : IntKind.i64.wrap ((bs : Int) * 2) = ((2 * bs : Nat) : Int) := by rw [wrap64 (by omega) (by omega)]; omega
  simp (maxSteps := 4000000) (disch := omega) only [Zq, evO, vbox, wr, Zeq, if_true, if_false, Nat.reduceEqDiff, Nat.reduceAdd, Nat.reduceLeDiff, Nat.reduceSub, and_self, and_true, true_and, reduceIte, reduceCtorEq, eq_self, implies_true, forall_const, false_implies, imp_self, decide_true, decide_false, fix_nil, fix_cons, t0, t1, t2, t6, t7, t8, Zfh (by omega : (bs : Int) < (N : Int)), w2]
  refine G_loopF [0, 1, 2, 6] (N) (fun k4 T H4 => ∃ (c : Nat) (g : Nat → Rnn), T 7 = .int .i64 (c : Int) ∧ T 8 = .int .i64 ((c + 2 * bs : Nat) : Int) ∧ k4 = N - c ∧ 2 * bs ∣ c ∧ c ≤ N ∧ Rk a H H4 ∧ Rw H4 a N g ∧ (∀ x, 2 * bs ∣ x → x < c → Blk ltR x (x + 2 * bs) f g) ∧ ∀ x, bs ∣ x → c ≤ x → x < N → Blk ltR x (min (x + bs) N) f g) ?_ ?_
  · simp (maxSteps := 4000000) (disch := omega) only [Zq, evO, vbox, wr, Zeq, if_true, if_false, Nat.reduceEqDiff, Nat.reduceAdd, Nat.reduceLeDiff, Nat.reduceSub, and_self, and_true, true_and, reduceIte, reduceCtorEq, eq_self, implies_true, forall_const, false_implies, imp_self, decide_true, decide_false, fix_nil, fix_cons, t0, t1, t2, t6, t7, t8]
    exact ⟨0, g, rfl, by rw [Nat.zero_add], rfl, Nat.dvd_zero _, Nat.zero_le _, k3, R3, fun x _ h => by omega, fun x q1 _ q2 => hAB x q1 q2⟩
  rintro k4 T H4 hT ⟨c, gd, t7, t8, hk4, hd, hc, k4', R4, hB, hP⟩
  simp only [fix_nil, fix_cons, Zq, evO, vbox, wr, Zeq, if_true, if_false, Nat.reduceEqDiff, Nat.reduceAdd, Nat.reduceLeDiff, Nat.reduceSub, and_self, and_true, true_and, reduceIte, reduceCtorEq, eq_self, implies_true, forall_const, false_implies, imp_self, decide_true, decide_false, t0, t1, t2, t6, t7, t8] at hT
  obtain ⟨t0, t1, t2, t6⟩ := hT
  have hdb : bs ∣ c := Nat.dvd_trans (Nat.dvd_mul_left bs 2) hd
  have hdb2 : bs ∣ c + bs := (Nat.dvd_add_right hdb).2 (Nat.dvd_refl bs)
  have w4 : IntKind.i64.wrap ((c : Int) + bs) = ((c + bs : Nat) : Int) := by rw [wrap64 (by omega) (by omega)]; omega
  by_cases hb : c + 2 * bs ≤ N
  · have w5 : IntKind.i64.wrap (((c + 2 * bs : Nat) : Int) + ((2 * bs : Nat) : Int)) = ((c + 2 * bs + 2 * bs : Nat) : Int) := by rw [wrap64 (by omega) (by omega)]; omega
    have B1 := hP c hdb (Nat.le_refl _) (by omega)
    have B2 := hP (c + bs) hdb2 (by omega) (by omega)
    rw [Nat.min_eq_left (by omega)] at B1 B2
    rw [show c + bs + bs = c + 2 * bs by omega] at B2
    have hMg := Blk.mg (n := N) (bf := bfR) B1 B2 hbf hb
    simp (maxSteps := 4000000) (disch := omega) only [Zq, evO, vbox, wr, Zeq, if_true, if_false, Nat.reduceEqDiff, Nat.reduceAdd, Nat.reduceLeDiff, Nat.reduceSub, and_self, and_true, true_and, reduceIte, reduceCtorEq, eq_self, implies_true, forall_const, false_implies, imp_self, decide_true, decide_false, fix_nil, fix_cons, t0, t1, t2, t6, t7, t8, Zfj (by omega : ((c + 2 * bs : Nat) : Int) ≤ (N : Int)), w4]
    refine GO_call ((r_symMerge hva hN (2 * bs) (A := c) (M := c + bs) (B := c + 2 * bs) (by omega) R4 (by omega) (by omega) hb hMg).mono ?_)
    rintro _ H5 ⟨k5, ⟨ge, R5, L5, S5⟩, rfl⟩
    simp (maxSteps := 4000000) (disch := omega) only [Zq, evO, vbox, wr, Zeq, if_true, if_false, Nat.reduceEqDiff, Nat.reduceAdd, Nat.reduceLeDiff, Nat.reduceSub, and_self, and_true, true_and, reduceIte, reduceCtorEq, eq_self, implies_true, forall_const, false_implies, imp_self, decide_true, decide_false, fix_nil, fix_cons, t0, t1, t2, t6, t7, t8, w2, w5]
    refine ⟨N - (c + 2 * bs), by omega, c + 2 * bs, ge, rfl, by rw [Nat.add_assoc], rfl, (Nat.dvd_add_right hd).2 (Nat.dvd_refl _), hb, k4'.trans k5, R5, fun x q1 q2 => ?_, fun x q1 q2 q3 => ?_⟩
    · by_cases e : x < c
      · exact (hB x q1 e).same (fun y y1 y2 => L5.out y (by
          by_cases z : x + 2 * bs ≤ c
          · omega
          · have := dvd_eq hd q1 (by omega) (by omega); omega))
      · obtain rfl := dvd_eq q1 hd (by omega) (by omega)
        exact Blk.join B1 B2 L5 S5 (by omega) (by omega)
    · exact (hP x q1 (by omega) q3).same (fun y y1 y2 => L5.out y (by omega))
  simp (maxSteps := 4000000) (disch := omega) only [Zq, evO, vbox, wr, Zeq, if_true, if_false, Nat.reduceEqDiff, Nat.reduceAdd, Nat.reduceLeDiff, Nat.reduceSub, and_self, and_true, true_and, reduceIte, reduceCtorEq, eq_self, implies_true, forall_const, false_implies, imp_self, decide_true, decide_false, fix_nil, fix_cons, t0, t1, t2, t6, t7, t8, Zfk (by omega : ¬ ((c + 2 * bs : Nat) : Int) ≤ (N : Int)), w4]
  have done_ : ∀ {ge : Nat → Rnn}, (∀ y, y < c → ge y = gd y) → (c < N → Blk ltR c N f ge) → AllB ltR (2 * bs) N f ge := fun {ge} e1 e2 x q1 q2 => by
    by_cases e : x < c
    · have e20 : x + 2 * bs ≤ c := by
        by_cases z : x + 2 * bs ≤ c
        · exact z
        · have := dvd_eq hd q1 (by omega) (by omega); omega
      rw [Nat.min_eq_left (by omega)]
      exact (hB x q1 e).same (fun y y1 y2 => e1 y (by omega))
    · obtain rfl := dvd_eq q1 hd (by omega) (by omega)
      rw [Nat.min_eq_right (by omega)]
      exact e2 q2
  by_cases hr : c + bs < N
  · have B1 := hP c hdb (Nat.le_refl _) (by omega)
    have B2 := hP (c + bs) hdb2 (by omega) hr
    rw [Nat.min_eq_left (by omega)] at B1
    rw [Nat.min_eq_right (by omega)] at B2
    have hMg := Blk.mg (n := N) (bf := bfR) B1 B2 hbf (Nat.le_refl _)
    simp (maxSteps := 4000000) (disch := omega) only [Zq, evO, vbox, wr, Zeq, if_true, if_false, Nat.reduceEqDiff, Nat.reduceAdd, Nat.reduceLeDiff, Nat.reduceSub, and_self, and_true, true_and, reduceIte, reduceCtorEq, eq_self, implies_true, forall_const, false_implies, imp_self, decide_true, decide_false, fix_nil, fix_cons, t0, t1, t2, t6, t7, t8, Zfh (by omega : ((c + bs : Nat) : Int) < (N : Int))]
    refine GO_call ((r_symMerge hva hN N (A := c) (M := c + bs) (B := N) (by omega) R4 (by omega) hr (Nat.le_refl _) hMg).mono ?_)
    rintro _ H5 ⟨k5, ⟨ge, R5, L5, S5⟩, rfl⟩
    simp (maxSteps := 4000000) (disch := omega) only [Zq, evO, vbox, wr, Zeq, if_true, if_false, Nat.reduceEqDiff, Nat.reduceAdd, Nat.reduceLeDiff, Nat.reduceSub, and_self, and_true, true_and, reduceIte, reduceCtorEq, eq_self, implies_true, forall_const, false_implies, imp_self, decide_true, decide_false, fix_nil, fix_cons, t0, t1, t2, t6, t7, t8, w3]
    exact ⟨N - 2 * bs, by omega, 2 * bs, ge, rfl, rfl, by omega, by omega, k4'.trans k5, R5, done_ (fun y q => L5.out y (by omega)) (fun _ => Blk.join B1 B2 L5 S5 (by omega) (by omega))⟩
  · simp (maxSteps := 4000000) (disch := omega) only [Zq, evO, vbox, wr, Zeq, if_true, if_false, Nat.reduceEqDiff, Nat.reduceAdd, Nat.reduceLeDiff, Nat.reduceSub, and_self, and_true, true_and, reduceIte, reduceCtorEq, eq_self, implies_true, forall_const, false_implies, imp_self, decide_true, decide_false, fix_nil, fix_cons, t0, t1, t2, t6, t7, t8, Zfi (by omega : ¬ ((c + bs : Nat) : Int) < (N : Int)), w3]
    exact ⟨N - 2 * bs, by omega, 2 * bs, gd, rfl, rfl, by omega, by omega, k4', R4, done_ (fun y _ => rfl) (fun h => by
      have := hP c hdb (Nat.le_refl _) h
      rwa [Nat.min_eq_right (by omega)] at this)⟩
theorem r_SortStable (R : Rw H a N f) (hva : va = .slice (some ⟨a, 0, none⟩) N 4) (hN : N ≤ 1000000) (hbf : ∀ i j, i < j → j < N → bfR (f i) (f j)) : Run Try.prog 57 [va, cmpV] H fun r H' => Rk a H H' ∧ (∃ g, Rw H' a N g ∧ (0 < N → Blk ltR 0 N f g)) ∧ r = .tuple #[] := by
  have lv := fun H0 : Heap => Sl.len_ (H1 := H0) (R.sl hva)
  refine Run.intro c57 rfl ?_
  simp (maxSteps := 4000000) (disch := omega) only [Zq, evO, vbox, wr, Zeq, if_true, if_false, Nat.reduceEqDiff, Nat.reduceAdd, Nat.reduceLeDiff, Nat.reduceSub, and_self, and_true, true_and, reduceIte, reduceCtorEq, eq_self, implies_true, forall_const, false_implies, imp_self, decide_true, decide_false, x57, lv]
  refine GO_call ((r_stable R hva hN hbf).mono ?_)
  rintro _ H2 ⟨k2, ⟨gg, R2, B2⟩, rfl⟩
  simp (maxSteps := 4000000) (disch := omega) only [Zq, evO, vbox, wr, Zeq, if_true, if_false, Nat.reduceEqDiff, Nat.reduceAdd, Nat.reduceLeDiff, Nat.reduceSub, and_self, and_true, true_and, reduceIte, reduceCtorEq, eq_self, implies_true, forall_const, false_implies, imp_self, decide_true, decide_false, fix_nil, fix_cons]
  exact ⟨k2, gg, R2, B2⟩
end
end Go.Proofs.Ytjjglonmaajjoaa.AX
