/- The reference's cursor over drawn code: it answers within its bounds, and turns nothing but itself. No condition beyond each law's own; of the program: the functions' forms. -/
import Derived.Test.YtjjglonmaajjoaaAtr
import Derived.Test.YtjjglonmaajjoaaAXzg
namespace Go.Proofs.Ytjjglonmaajjoaa.AX
open Go
set_option maxRecDepth 10000
set_option maxHeartbeats 4000000
set_option linter.unusedSimpArgs false
set_option linter.unusedVariables false
def andI (k : IntKind) (a b : Int) : Int := k.wrap (BitVec.ofInt k.bits a &&& BitVec.ofInt k.bits b).toNat
theorem abin_and {k : IntKind} {a b : Int} : abin .and (.int k a) (.int k b) = some (.int k (andI k a b)) := by simp [abin, intOp, andI]
theorem abin_xor' {k : IntKind} {a b : Int} : ∃ c, abin .xor (.int k a) (.int k b) = some (.int k c) := ⟨_, by simp [abin, intOp]; rfl⟩
theorem abin_shr' {a b : Int} (hb : 0 ≤ b) : ∃ c, abin .shr (.int .i64 a) (.int .u64 b) = some (.int .i64 c) := by
  have h : ¬ b < 0 := by omega
  exact ⟨a.fdiv (2 ^ min b.toNat IntKind.i64.bits), by simp [abin, h]⟩
theorem and_255 (a : Int) : 0 ≤ andI .i64 a 255 ∧ andI .i64 a 255 ≤ 255 := by
  unfold andI
  have h : (BitVec.ofInt IntKind.i64.bits a &&& BitVec.ofInt IntKind.i64.bits 255).toNat ≤ 255 := by
    rw [BitVec.toNat_and]
    exact Nat.le_trans Nat.and_le_right (by decide)
  rw [wrap64 (by omega) (by omega)]
  omega
/-- A cursor at p over v, in a heap that has grown out of B. -/
def Cur (B : Heap) (v : Value) (code : List Int) (H : Heap) (p : Nat) : Prop := Keep B H ∧ B.nxt ≤ p ∧ p < H.nxt ∧ ∃ (pos : Nat) (seed : Int), H.get p = some (.own [v, .int .i64 (pos : Int), .int .i64 seed]) ∧ pos ≤ code.length
theorem Cur.chg {B H H' : Heap} {v : Value} {code : List Int} {p : Nat} (h : Cur B v code H p) (k : Keep H H') : Cur B v code H' p := by
  obtain ⟨h1, h2, h3, pos, seed, h4, h5⟩ := h
  exact ⟨h1.trans k, h2, Nat.lt_of_lt_of_le h3 k.nxt, pos, seed, by rw [k.get p h3]; exact h4, h5⟩
section
variable {B H : Heap} {v : Value} {code : List Int} {p : Nat}
theorem r_spec_l01New (hb : Bts' B v code) (hl : code.length ≤ 1048576) (k0 : Keep B H) : Run Try.prog 53 [v] H fun r H' => Keep H H' ∧ ∃ p, r = ptr p 0 ∧ H.nxt ≤ p ∧ Cur B v code H' p := by
  have h := hb.keep k0
  refine Run.intro c53 rfl ?_
  simp (maxSteps := 4000000) (disch := omega) only [Zq, evO, vbox, wr, Zeq, if_true, if_false, Nat.reduceEqDiff, Nat.reduceAdd, Nat.reduceLeDiff, Nat.reduceSub, and_self, and_true, true_and, reduceIte, reduceCtorEq, eq_self, implies_true, forall_const, false_implies, imp_self, decide_true, decide_false, x53, h.len_]
  refine G_for (min code.length 4000) (fun i T H1 => T 0 = v ∧ T 4 = .int .i64 (i : Int) ∧ (∃ s, T 3 = .int .i64 s) ∧ H1 = H) 0 (Nat.zero_le _) ?_ ?_
  · simp (maxSteps := 4000000) (disch := omega) only [Zq, evO, vbox, wr, Zeq, if_true, if_false, Nat.reduceEqDiff, Nat.reduceAdd, Nat.reduceLeDiff, Nat.reduceSub, and_self, and_true, true_and, reduceIte, reduceCtorEq, eq_self, implies_true, forall_const, false_implies, imp_self, decide_true, decide_false]
    exact ⟨_, rfl⟩
  · rintro i T H1 hi ⟨t0, t4, ⟨s, t3⟩, rfl⟩
    by_cases hin : i < min code.length 4000
    · have hic : i < code.length := by omega
      simp (maxSteps := 4000000) (disch := omega) only [Zq, evO, vbox, wr, Zeq, if_true, if_false, Nat.reduceEqDiff, Nat.reduceAdd, Nat.reduceLeDiff, Nat.reduceSub, and_self, and_true, true_and, reduceIte, reduceCtorEq, eq_self, implies_true, forall_const, false_implies, imp_self, decide_true, decide_false, t0, t4, t3, h.len_, h.idx hic, h.ld hic, abin_and]
      exact ⟨hin, _, rfl⟩
    · have hcase : code.length ≤ i ∨ (i < code.length ∧ 4000 ≤ i) := by omega
      have fin : Cur B v code (H1.push [v, .int .i64 0, .int .i64 s]) H1.nxt := ⟨k0.push', k0.nxt, by rw [Zbg]; omega, 0, s, by rw [push_get', if_pos rfl]; rfl, by omega⟩
      rcases hcase with hc | ⟨hc, hc'⟩
      · simp (maxSteps := 4000000) (disch := omega) only [Zq, evO, vbox, wr, Zeq, if_true, if_false, Nat.reduceEqDiff, Nat.reduceAdd, Nat.reduceLeDiff, Nat.reduceSub, and_self, and_true, true_and, reduceIte, reduceCtorEq, eq_self, implies_true, forall_const, false_implies, imp_self, decide_true, decide_false, t0, t4, t3, h.len_, Sl.noTup_ h, Sl.cells_ h]
        exact ⟨Keep.push _ _, _, rfl, Nat.le_refl _, fin⟩
      · simp (maxSteps := 4000000) (disch := omega) only [Zq, evO, vbox, wr, Zeq, if_true, if_false, Nat.reduceEqDiff, Nat.reduceAdd, Nat.reduceLeDiff, Nat.reduceSub, and_self, and_true, true_and, reduceIte, reduceCtorEq, eq_self, implies_true, forall_const, false_implies, imp_self, decide_true, decide_false, t0, t4, t3, h.len_, Sl.noTup_ h, Sl.cells_ h]
        exact ⟨Keep.push _ _, _, rfl, Nat.le_refl _, fin⟩
theorem r_spec_l01Byte (hb : Bts' B v code) (hl : code.length ≤ 1048576) (hc : ∀ x ∈ code, 0 ≤ x ∧ x ≤ 255) (c : Cur B v code H p) : Run Try.prog 102 [ptr p 0] H fun r H' => Chg [p] H H' ∧ Cur B v code H' p ∧ ∃ z : Int, r = .int .i64 z ∧ 0 ≤ z ∧ z ≤ 255 := by
  obtain ⟨k0, p0, p1, pos, seed, g, hpos⟩ := c
  have h := hb.keep k0
  refine Run.intro c102 rfl ?_
  simp (maxSteps := 4000000) (disch := omega) only [Zq, evO, vbox, wr, Zeq, if_true, if_false, Nat.reduceEqDiff, Nat.reduceAdd, Nat.reduceLeDiff, Nat.reduceSub, and_self, and_true, true_and, reduceIte, reduceCtorEq, eq_self, implies_true, forall_const, false_implies, imp_self, decide_true, decide_false, x102, g]
  refine G_calm rfl ?_
  obtain ⟨c1, e1⟩ := abin_shr' (a := IntKind.i64.wrap (IntKind.i64.wrap (seed * 6364136223846793005) + 1442695040888963407)) (b := 33) (by omega)
  obtain ⟨c2, e2⟩ := abin_shr' (a := IntKind.i64.wrap (IntKind.i64.wrap (seed * 6364136223846793005) + 1442695040888963407)) (b := 45) (by omega)
  obtain ⟨c3, e3⟩ := abin_xor' (k := .i64) (a := c1) (b := c2)
  have a1 := and_255 c3
  simp (maxSteps := 4000000) (disch := omega) only [Zq, evO, vbox, wr, Zeq, if_true, if_false, Nat.reduceEqDiff, Nat.reduceAdd, Nat.reduceLeDiff, Nat.reduceSub, and_self, and_true, true_and, reduceIte, reduceCtorEq, eq_self, implies_true, forall_const, false_implies, imp_self, decide_true, decide_false, g, e1, e2, e3, abin_and]
  generalize IntKind.i64.wrap (IntKind.i64.wrap (seed * 6364136223846793005) + 1442695040888963407) = seed' at *
  refine G_calm rfl ?_
  by_cases hp : pos < code.length
  · have a2 := and_255 (IntKind.i64.wrap (andI .i64 c3 255 + IntKind.i64.wrap (code.getD pos 0)))
    have kA : Keep B (H.set p [v, .int .i64 (pos : Int), .int .i64 seed']) := k0.set' p0
    have hA := hb.keep kA
    have hw : IntKind.i64.wrap ((pos : Int) + 1) = ((pos + 1 : Nat) : Int) := Zfn (by omega)
    simp (maxSteps := 4000000) (disch := omega) only [Zq, evO, vbox, wr, Zeq, if_true, if_false, Nat.reduceEqDiff, Nat.reduceAdd, Nat.reduceLeDiff, Nat.reduceSub, and_self, and_true, true_and, reduceIte, reduceCtorEq, eq_self, implies_true, forall_const, false_implies, imp_self, decide_true, decide_false, g, h.len_]
    refine G_calm rfl ?_
    simp (maxSteps := 4000000) (disch := omega) only [Zq, evO, vbox, wr, Zeq, if_true, if_false, Nat.reduceEqDiff, Nat.reduceAdd, Nat.reduceLeDiff, Nat.reduceSub, and_self, and_true, true_and, reduceIte, reduceCtorEq, eq_self, implies_true, forall_const, false_implies, imp_self, decide_true, decide_false, IntsK.idx hA hp, IntsK.ld hA hp, abin_and, hw]
    refine ⟨Chg.trans (Chg.set (by simp)) (Chg.set (by simp)), ⟨kA.set' p0, p0, by rw [Zbh, Zbh]; exact p1, pos + 1, seed', by rw [Zbi, if_pos rfl], by omega⟩, _, rfl, a2⟩
  · simp (maxSteps := 4000000) (disch := omega) only [Zq, evO, vbox, wr, Zeq, if_true, if_false, Nat.reduceEqDiff, Nat.reduceAdd, Nat.reduceLeDiff, Nat.reduceSub, and_self, and_true, true_and, reduceIte, reduceCtorEq, eq_self, implies_true, forall_const, false_implies, imp_self, decide_true, decide_false, g, h.len_]
    exact ⟨Chg.set (by simp), ⟨k0.set' p0, p0, by rw [Zbh]; exact p1, pos, seed', by rw [Zbi, if_pos rfl], hpos⟩, _, rfl, a1⟩
theorem r_spec_l01Below {n : Nat} (hb : Bts' B v code) (hl : code.length ≤ 1048576) (hc : ∀ x ∈ code, 0 ≤ x ∧ x ≤ 255) (c : Cur B v code H p) (hn : 1 ≤ n) (hn' : n ≤ 1000000) : Run Try.prog 81 [ptr p 0, .int .i64 (n : Int)] H fun r H' => Chg [p] H H' ∧ Cur B v code H' p ∧ ∃ z : Nat, r = .int .i64 (z : Int) ∧ z < n := by
  refine Run.intro c81 rfl ?_
  by_cases h256 : n ≤ 256
  · simp (maxSteps := 4000000) (disch := omega) only [Zq, evO, vbox, wr, Zeq, if_true, if_false, Nat.reduceEqDiff, Nat.reduceAdd, Nat.reduceLeDiff, Nat.reduceSub, and_self, and_true, true_and, reduceIte, reduceCtorEq, eq_self, implies_true, forall_const, false_implies, imp_self, decide_true, decide_false, x81]
    refine GO_call ((r_spec_l01Byte hb hl hc c).mono ?_)
    rintro _ H1 ⟨c1, u1, z, rfl, hz⟩
    have hr : abin .rem (.int .i64 z) (.int .i64 (n : Int)) = some (.int .i64 (z.tmod n)) := abin_rem (by omega)
    have h1 := tmod_range hz.1 (show (0 : Int) < n by omega)
    simp (maxSteps := 4000000) (disch := omega) only [Zq, evO, vbox, wr, Zeq, if_true, if_false, Nat.reduceEqDiff, Nat.reduceAdd, Nat.reduceLeDiff, Nat.reduceSub, and_self, and_true, true_and, reduceIte, reduceCtorEq, eq_self, implies_true, forall_const, false_implies, imp_self, decide_true, decide_false, hr]
    exact ⟨c1, u1, (z.tmod n).toNat, by congr 1; omega, by omega⟩
  · simp (maxSteps := 4000000) (disch := omega) only [Zq, evO, vbox, wr, Zeq, if_true, if_false, Nat.reduceEqDiff, Nat.reduceAdd, Nat.reduceLeDiff, Nat.reduceSub, and_self, and_true, true_and, reduceIte, reduceCtorEq, eq_self, implies_true, forall_const, false_implies, imp_self, decide_true, decide_false, x81]
    refine GO_call ((r_spec_l01Byte hb hl hc c).mono ?_)
    rintro _ H1 ⟨c1, u1, z1, rfl, hz1⟩
    simp (maxSteps := 4000000) (disch := omega) only [Zq, evO, vbox, wr, Zeq, if_true, if_false, Nat.reduceEqDiff, Nat.reduceAdd, Nat.reduceLeDiff, Nat.reduceSub, and_self, and_true, true_and, reduceIte, reduceCtorEq, eq_self, implies_true, forall_const, false_implies, imp_self, decide_true, decide_false]
    refine GO_call ((r_spec_l01Byte hb hl hc u1).mono ?_)
    rintro _ H2 ⟨c2, u2, z2, rfl, hz2⟩
    simp (maxSteps := 4000000) (disch := omega) only [Zq, evO, vbox, wr, Zeq, if_true, if_false, Nat.reduceEqDiff, Nat.reduceAdd, Nat.reduceLeDiff, Nat.reduceSub, and_self, and_true, true_and, reduceIte, reduceCtorEq, eq_self, implies_true, forall_const, false_implies, imp_self, decide_true, decide_false]
    refine GO_call ((r_spec_l01Byte hb hl hc u2).mono ?_)
    rintro _ H3 ⟨c3, u3, z3, rfl, hz3⟩
    have w1 : IntKind.i64.wrap (z1 * 65536) = z1 * 65536 := wrap64 (by omega) (by omega)
    have w2 : IntKind.i64.wrap (z2 * 256) = z2 * 256 := wrap64 (by omega) (by omega)
    have w3 : IntKind.i64.wrap (z1 * 65536 + z2 * 256) = z1 * 65536 + z2 * 256 := wrap64 (by omega) (by omega)
    have w4 : IntKind.i64.wrap (z1 * 65536 + z2 * 256 + z3) = z1 * 65536 + z2 * 256 + z3 := wrap64 (by omega) (by omega)
    have hr : abin .rem (.int .i64 (z1 * 65536 + z2 * 256 + z3)) (.int .i64 (n : Int)) = some (.int .i64 ((z1 * 65536 + z2 * 256 + z3).tmod n)) := abin_rem (by omega)
    have h1 := tmod_range (x := z1 * 65536 + z2 * 256 + z3) (by omega) (show (0 : Int) < n by omega)
    simp (maxSteps := 4000000) (disch := omega) only [Zq, evO, vbox, wr, Zeq, if_true, if_false, Nat.reduceEqDiff, Nat.reduceAdd, Nat.reduceLeDiff, Nat.reduceSub, and_self, and_true, true_and, reduceIte, reduceCtorEq, eq_self, implies_true, forall_const, false_implies, imp_self, decide_true, decide_false, w1, w2, w3, w4, hr]
    exact ⟨c1.trans (c2.trans c3), u3, ((z1 * 65536 + z2 * 256 + z3).tmod n).toNat, by congr 1; omega, by omega⟩
end
end Go.Proofs.Ytjjglonmaajjoaa.AX
