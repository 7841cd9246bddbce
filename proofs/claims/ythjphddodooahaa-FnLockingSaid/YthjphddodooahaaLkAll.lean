/- FnLocking: the law's run. No condition; of the program: the functions' forms. -/
import Derived.Test.YthjphddodooahaaXG
import Derived.Test.YthjphddodooahaaAXza
import Derived.Test.YthjphddodooahaaAXzc
import Derived.Test.YthjphddodooahaaPll
import Derived.Test.YthjphddodooahaaPlg
import Derived.Test.YthjphddodooahaaPlj
import Derived.Test.YthjphddodooahaaPlk
import Derived.Test.YthjphddodooahaaPlm
import Derived.Test.YthjphddodooahaaRpl
namespace Go.Proofs.Ythjphddodooahaa.AX
open Go
set_option maxRecDepth 10000
set_option maxHeartbeats 4000000
set_option linter.unusedSimpArgs false
set_option linter.unusedVariables false
abbrev Bts' := IntsK .u8
theorem getD_mem {xs : List Int} {i : Nat} (h : i < xs.length) : xs.getD i 0 ∈ xs := by
  have e : xs.getD i 0 = xs[i] := by simp [List.getD, List.getElem?_eq_getElem h]
  rw [e]; exact List.getElem_mem h
theorem r_laws_big {H : Heap} {v : Value} {xs : List Int} (h : Bts' H v xs) : Run Try.prog 10 [v] H fun r H' => Keep H H' ∧ r = .bool (decide ((1048576 : Int) < xs.length)) := by
  refine Run.intro c10 rfl ?_
  simp (maxSteps := 4000000) (disch := omega) only [Zq, evO, vbox, wr, Zeq, if_true, if_false, Nat.reduceEqDiff, Nat.reduceAdd, Nat.reduceLeDiff, Nat.reduceSub, and_self, and_true, true_and, reduceIte, reduceCtorEq, eq_self, implies_true, forall_const, false_implies, imp_self, decide_true, decide_false, x10, h.len_]
  exact Keep.refl _
theorem tmod_range {x k : Int} (hx : 0 ≤ x) (hk : 0 < k) : 0 ≤ x.tmod k ∧ x.tmod k < k := by
  rw [Int.tmod_eq_emod_of_nonneg hx]
  exact ⟨Int.emod_nonneg _ (by omega), Int.emod_lt_of_pos _ hk⟩
end Go.Proofs.Ythjphddodooahaa.AX
namespace Go.Proofs.Ythjphddodooahaa.AX
open Go
set_option maxRecDepth 10000
set_option maxHeartbeats 4000000
set_option linter.unusedSimpArgs false
set_option linter.unusedVariables false
def andI (k : IntKind) (a b : Int) : Int := k.wrap (BitVec.ofInt k.bits a &&& BitVec.ofInt k.bits b).toNat
theorem abin_and {k : IntKind} {a b : Int} : abin .and (.int k a) (.int k b) = some (.int k (andI k a b)) := by simp [abin, intOp, andI]
theorem abin_xor' {k : IntKind} {a b : Int} : ∃ c, abin .xor (.int k a) (.int k b) = some (.int k c) := ⟨_, by simp [abin, intOp]; rfl⟩
theorem abin_shr' {a b : Int} (hb : 0 ≤ b) : ∃ c, abin .shr (.int .i64 a) (.int .u64 b) = some (.int .i64 c) := by
  have h : ¬ b < 0 := by omega
  exact ⟨a.fdiv (2 ^ min b.toNat IntKind.i64.bits), by simp [abin, h]⟩
theorem and_255 (a : Int) : 0 ≤ andI .i64 a 255 ∧ andI .i64 a 255 ≤ 255 := by
  unfold andI
  have h : (BitVec.ofInt IntKind.i64.bits a &&& BitVec.ofInt IntKind.i64.bits 255).toNat ≤ 255 := by
    rw [BitVec.toNat_and]
    exact Nat.le_trans Nat.and_le_right (by decide)
  rw [wrap64 (by omega) (by omega)]
  omega
/-- A cursor at p over v, in a heap that has grown out of B. -/
def Cur (B : Heap) (v : Value) (code : List Int) (H : Heap) (p : Nat) : Prop := Keep B H ∧ B.nxt ≤ p ∧ p < H.nxt ∧ ∃ (pos : Nat) (seed : Int), H.get p = some (.own [v, .int .i64 (pos : Int), .int .i64 seed]) ∧ pos ≤ code.length
theorem Cur.chg {B H H' : Heap} {v : Value} {code : List Int} {p : Nat} (h : Cur B v code H p) (k : Keep H H') : Cur B v code H' p := by
  obtain ⟨h1, h2, h3, pos, seed, h4, h5⟩ := h
  exact ⟨h1.trans k, h2, Nat.lt_of_lt_of_le h3 k.nxt, pos, seed, by rw [k.get p h3]; exact h4, h5⟩
section
variable {B H : Heap} {v : Value} {code : List Int} {p : Nat}
theorem r_spec_l01New (hb : Bts' B v code) (hl : code.length ≤ 1048576) (k0 : Keep B H) : Run Try.prog 44 [v] H fun r H' => Keep H H' ∧ ∃ p, r = ptr p 0 ∧ H.nxt ≤ p ∧ Cur B v code H' p := by
  have h := hb.keep k0
  refine Run.intro c44 rfl ?_
  simp (maxSteps := 4000000) (disch := omega) only [Zq, evO, vbox, wr, Zeq, if_true, if_false, Nat.reduceEqDiff, Nat.reduceAdd, Nat.reduceLeDiff, Nat.reduceSub, and_self, and_true, true_and, reduceIte, reduceCtorEq, eq_self, implies_true, forall_const, false_implies, imp_self, decide_true, decide_false, x44, h.len_]
  refine G_for (min code.length 4000) (fun i T H1 => T 0 = v ∧ T 4 = .int .i64 (i : Int) ∧ (∃ s, T 3 = .int .i64 s) ∧ H1 = H) 0 (Nat.zero_le _) ?_ ?_
  · simp (maxSteps := 4000000) (disch := omega) only [Zq, evO, vbox, wr, Zeq, if_true, if_false, Nat.reduceEqDiff, Nat.reduceAdd, Nat.reduceLeDiff, Nat.reduceSub, and_self, and_true, true_and, reduceIte, reduceCtorEq, eq_self, implies_true, forall_const, false_implies, imp_self, decide_true, decide_false]
    exact ⟨_, rfl⟩
  · rintro i T H1 hi ⟨t0, t4, ⟨s, t3⟩, rfl⟩
    by_cases hin : i < min code.length 4000
    · have hic : i < code.length := by omega
      simp (maxSteps := 4000000) (disch := omega) only [Zq, evO, vbox, wr, Zeq, if_true, if_false, Nat.reduceEqDiff, Nat.reduceAdd, Nat.reduceLeDiff, Nat.reduceSub, and_self, and_true, true_and, reduceIte, reduceCtorEq, eq_self, implies_true, forall_const, false_implies, imp_self, decide_true, decide_false, t0, t4, t3, h.len_, h.idx hic, h.ld hic, abin_and]
      exact ⟨hin, _, rfl⟩
    · have hcase : code.length ≤ i ∨ (i < code.length ∧ 4000 ≤ i) := by omega
      have fin : Cur B v code (H1.push [v, .int .i64 0, .int .i64 s]) H1.nxt := ⟨k0.push', k0.nxt, by rw [Zbg]; omega, 0, s, by rw [push_get', if_pos rfl]; rfl, by omega⟩
      rcases hcase with hc | ⟨hc, hc'⟩
      · simp (maxSteps := 4000000) (disch := omega) only [Zq, evO, vbox, wr, Zeq, if_true, if_false, Nat.reduceEqDiff, Nat.reduceAdd, Nat.reduceLeDiff, Nat.reduceSub, and_self, and_true, true_and, reduceIte, reduceCtorEq, eq_self, implies_true, forall_const, false_implies, imp_self, decide_true, decide_false, t0, t4, t3, h.len_, Sl.noTup_ h, Sl.cells_ h]
        exact ⟨Keep.push _ _, _, rfl, Nat.le_refl _, fin⟩
      · simp (maxSteps := 4000000) (disch := omega) only [Zq, evO, vbox, wr, Zeq, if_true, if_false, Nat.reduceEqDiff, Nat.reduceAdd, Nat.reduceLeDiff, Nat.reduceSub, and_self, and_true, true_and, reduceIte, reduceCtorEq, eq_self, implies_true, forall_const, false_implies, imp_self, decide_true, decide_false, t0, t4, t3, h.len_, Sl.noTup_ h, Sl.cells_ h]
        exact ⟨Keep.push _ _, _, rfl, Nat.le_refl _, fin⟩
theorem r_spec_l01Byte (hb : Bts' B v code) (hl : code.length ≤ 1048576) (hc : ∀ x ∈ code, 0 ≤ x ∧ x ≤ 255) (c : Cur B v code H p) : Run Try.prog 90 [ptr p 0] H fun r H' => Chg [p] H H' ∧ Cur B v code H' p ∧ ∃ z : Int, r = .int .i64 z ∧ 0 ≤ z ∧ z ≤ 255 := by
  obtain ⟨k0, p0, p1, pos, seed, g, hpos⟩ := c
  have h := hb.keep k0
  refine Run.intro c90 rfl ?_
  simp (maxSteps := 4000000) (disch := omega) only [Zq, evO, vbox, wr, Zeq, if_true, if_false, Nat.reduceEqDiff, Nat.reduceAdd, Nat.reduceLeDiff, Nat.reduceSub, and_self, and_true, true_and, reduceIte, reduceCtorEq, eq_self, implies_true, forall_const, false_implies, imp_self, decide_true, decide_false, x90, g]
  refine G_calm rfl ?_
  obtain ⟨c1, e1⟩ := abin_shr' (a := IntKind.i64.wrap (IntKind.i64.wrap (seed * 6364136223846793005) + 1442695040888963407)) (b := 33) (by omega)
  obtain ⟨c2, e2⟩ := abin_shr' (a := IntKind.i64.wrap (IntKind.i64.wrap (seed * 6364136223846793005) + 1442695040888963407)) (b := 45) (by omega)
  obtain ⟨c3, e3⟩ := abin_xor' (k := .i64) (a := c1) (b := c2)
  have a1 := and_255 c3
  simp (maxSteps := 4000000) (disch := omega) only [Zq, evO, vbox, wr, Zeq, if_true, if_false, Nat.reduceEqDiff, Nat.reduceAdd, Nat.reduceLeDiff, Nat.reduceSub, and_self, and_true, true_and, reduceIte, reduceCtorEq, eq_self, implies_true, forall_const, false_implies, imp_self, decide_true, decide_false, g, e1, e2, e3, abin_and]
  generalize IntKind.i64.wrap (IntKind.i64.wrap (seed * 6364136223846793005) + 1442695040888963407) = seed' at *
  refine G_calm rfl ?_
  by_cases hp : pos < code.length
  · have a2 := and_255 (IntKind.i64.wrap (andI .i64 c3 255 + IntKind.i64.wrap (code.getD pos 0)))
    have kA : Keep B (H.set p [v, .int .i64 (pos : Int), .int .i64 seed']) := k0.set' p0
    have hA := hb.keep kA
    have hw : IntKind.i64.wrap ((pos : Int) + 1) = ((pos + 1 : Nat) : Int) := Zfn (by omega)
    simp (maxSteps := 4000000) (disch := omega) only [Zq, evO, vbox, wr, Zeq, if_true, if_false, Nat.reduceEqDiff, Nat.reduceAdd, Nat.reduceLeDiff, Nat.reduceSub, and_self, and_true, true_and, reduceIte, reduceCtorEq, eq_self, implies_true, forall_const, false_implies, imp_self, decide_true, decide_false, g, h.len_]
    refine G_calm rfl ?_
    simp (maxSteps := 4000000) (disch := omega) only [Zq, evO, vbox, wr, Zeq, if_true, if_false, Nat.reduceEqDiff, Nat.reduceAdd, Nat.reduceLeDiff, Nat.reduceSub, and_self, and_true, true_and, reduceIte, reduceCtorEq, eq_self, implies_true, forall_const, false_implies, imp_self, decide_true, decide_false, IntsK.idx hA hp, IntsK.ld hA hp, abin_and, hw]
    refine ⟨Chg.trans (Chg.set (by simp)) (Chg.set (by simp)), ⟨kA.set' p0, p0, by rw [Zbh, Zbh]; exact p1, pos + 1, seed', by rw [Zbi, if_pos rfl], by omega⟩, _, rfl, a2⟩
  · simp (maxSteps := 4000000) (disch := omega) only [Zq, evO, vbox, wr, Zeq, if_true, if_false, Nat.reduceEqDiff, Nat.reduceAdd, Nat.reduceLeDiff, Nat.reduceSub, and_self, and_true, true_and, reduceIte, reduceCtorEq, eq_self, implies_true, forall_const, false_implies, imp_self, decide_true, decide_false, g, h.len_]
    exact ⟨Chg.set (by simp), ⟨k0.set' p0, p0, by rw [Zbh]; exact p1, pos, seed', by rw [Zbi, if_pos rfl], hpos⟩, _, rfl, a1⟩
theorem r_spec_l01Below {n : Nat} (hb : Bts' B v code) (hl : code.length ≤ 1048576) (hc : ∀ x ∈ code, 0 ≤ x ∧ x ≤ 255) (c : Cur B v code H p) (hn : 1 ≤ n) (hn' : n ≤ 1000000) : Run Try.prog 73 [ptr p 0, .int .i64 (n : Int)] H fun r H' => Chg [p] H H' ∧ Cur B v code H' p ∧ ∃ z : Nat, r = .int .i64 (z : Int) ∧ z < n := by
  refine Run.intro c73 rfl ?_
  by_cases h256 : n ≤ 256
  · simp (maxSteps := 4000000) (disch := omega) only [Zq, evO, vbox, wr, Zeq, if_true, if_false, Nat.reduceEqDiff, Nat.reduceAdd, Nat.reduceLeDiff, Nat.reduceSub, and_self, and_true, true_and, reduceIte, reduceCtorEq, eq_self, implies_true, forall_const, false_implies, imp_self, decide_true, decide_false, x73]
    refine GO_call ((r_spec_l01Byte hb hl hc c).mono ?_)
    rintro _ H1 ⟨c1, u1, z, rfl, hz⟩
    have hr : abin .rem (.int .i64 z) (.int .i64 (n : Int)) = some (.int .i64 (z.tmod n)) := abin_rem (by omega)
    have h1 := tmod_range hz.1 (show (0 : Int) < n by omega)
    simp (maxSteps := 4000000) (disch := omega) only [Zq, evO, vbox, wr, Zeq, if_true, if_false, Nat.reduceEqDiff, Nat.reduceAdd, Nat.reduceLeDiff, Nat.reduceSub, and_self, and_true, true_and, reduceIte, reduceCtorEq, eq_self, implies_true, forall_const, false_implies, imp_self, decide_true, decide_false, hr]
    exact ⟨c1, u1, (z.tmod n).toNat, by congr 1; omega, by omega⟩
  · simp (maxSteps := 4000000) (disch := omega) only [Zq, evO, vbox, wr, Zeq, if_true, if_false, Nat.reduceEqDiff, Nat.reduceAdd, Nat.reduceLeDiff, Nat.reduceSub, and_self, and_true, true_and, reduceIte, reduceCtorEq, eq_self, implies_true, forall_const, false_implies, imp_self, decide_true, decide_false, x73]
    refine GO_call ((r_spec_l01Byte hb hl hc c).mono ?_)
    rintro _ H1 ⟨c1, u1, z1, rfl, hz1⟩
    simp (maxSteps := 4000000) (disch := omega) only [Zq, evO, vbox, wr, Zeq, if_true, if_false, Nat.reduceEqDiff, Nat.reduceAdd, Nat.reduceLeDiff, Nat.reduceSub, and_self, and_true, true_and, reduceIte, reduceCtorEq, eq_self, implies_true, forall_const, false_implies, imp_self, decide_true, decide_false]
    refine GO_call ((r_spec_l01Byte hb hl hc u1).mono ?_)
    rintro _ H2 ⟨c2, u2, z2, rfl, hz2⟩
    simp (maxSteps := 4000000) (disch := omega) only [Zq, evO, vbox, wr, Zeq, if_true, if_false, Nat.reduceEqDiff, Nat.reduceAdd, Nat.reduceLeDiff, Nat.reduceSub, and_self, and_true, true_and, reduceIte, reduceCtorEq, eq_self, implies_true, forall_const, false_implies, imp_self, decide_true, decide_false]
    refine GO_call ((r_spec_l01Byte hb hl hc u2).mono ?_)
    rintro _ H3 ⟨c3, u3, z3, rfl, hz3⟩
    have w1 : IntKind.i64.wrap (z1 * 65536) = z1 * 65536 := wrap64 (by omega) (by omega)
    have w2 : IntKind.i64.wrap (z2 * 256) = z2 * 256 := wrap64 (by omega) (by omega)
    have w3 : IntKind.i64.wrap (z1 * 65536 + z2 * 256) = z1 * 65536 + z2 * 256 := wrap64 (by omega) (by omega)
    have w4 : IntKind.i64.wrap (z1 * 65536 + z2 * 256 + z3) = z1 * 65536 + z2 * 256 + z3 := wrap64 (by omega) (by omega)
    have hr : abin .rem (.int .i64 (z1 * 65536 + z2 * 256 + z3)) (.int .i64 (n : Int)) = some (.int .i64 ((z1 * 65536 + z2 * 256 + z3).tmod n)) := abin_rem (by omega)
    have h1 := tmod_range (x := z1 * 65536 + z2 * 256 + z3) (by omega) (show (0 : Int) < n by omega)
    simp (maxSteps := 4000000) (disch := omega) only [Zq, evO, vbox, wr, Zeq, if_true, if_false, Nat.reduceEqDiff, Nat.reduceAdd, Nat.reduceLeDiff, Nat.reduceSub, and_self, and_true, true_and, reduceIte, reduceCtorEq, eq_self, implies_true, forall_const, false_implies, imp_self, decide_true, decide_false, w1, w2, w3, w4, hr]
    exact ⟨c1.trans (c2.trans c3), u3, ((z1 * 65536 + z2 * 256 + z3).tmod n).toNat, by congr 1; omega, by omega⟩
end
end Go.Proofs.Ythjphddodooahaa.AX
namespace Go.Proofs.Ythjphddodooahaa.AX
open Go
set_option maxRecDepth 10000
set_option maxHeartbeats 4000000
set_option linter.unusedSimpArgs false
set_option linter.unusedVariables false
section
variable {H : Heap} {v w : Value}
theorem r_laws_sameInts {xs : List Int} (h1 : (rSlc rInt).rd H [v] xs) (h2 : (rSlc rInt).rd H [w] xs) (hl : xs.length ≤ 1048576) : Run Try.prog 23 [v, w] H fun r H' => Keep H H' ∧ r = .bool true := by
  have l1 : ∀ H : Heap, vlen H v = some (.int .i64 xs.length, H) := fun _ => slc_len h1
  have l2 : ∀ H : Heap, vlen H w = some (.int .i64 xs.length, H) := fun _ => slc_len h2
  have i1 := ints_of h1
  have i2 := ints_of h2
  refine Run.intro c23 rfl ?_
  simp (maxSteps := 4000000) (disch := omega) only [Zq, evO, vbox, wr, Zeq, if_true, if_false, Nat.reduceEqDiff, Nat.reduceAdd, Nat.reduceLeDiff, Nat.reduceSub, and_self, and_true, true_and, reduceIte, reduceCtorEq, eq_self, implies_true, forall_const, false_implies, imp_self, decide_true, decide_false, x23, l1, l2]
  refine G_forF [0, 1] (xs.length) (fun i T H1 => T 5 = .int .i64 (i : Int) ∧ Keep H H1) 0 (Nat.zero_le _) ?_ ?_
  · simp (maxSteps := 4000000) (disch := omega) only [Zq, evO, vbox, wr, Zeq, if_true, if_false, Nat.reduceEqDiff, Nat.reduceAdd, Nat.reduceLeDiff, Nat.reduceSub, and_self, and_true, true_and, reduceIte, reduceCtorEq, eq_self, implies_true, forall_const, false_implies, imp_self, decide_true, decide_false, fix_nil, fix_cons]
    exact Keep.refl _
  rintro i T H1 hi hT ⟨t5, k1⟩
  simp only [fix_nil, fix_cons, Zq, evO, vbox, wr, Zeq, if_true, if_false, Nat.reduceEqDiff, Nat.reduceAdd, Nat.reduceLeDiff, Nat.reduceSub, and_self, and_true, true_and, reduceIte, reduceCtorEq, eq_self, implies_true, forall_const, false_implies, imp_self, decide_true, decide_false] at hT
  obtain ⟨t0, t1⟩ := hT
  by_cases hin : i < xs.length
  · have j1 := i1.keep k1
    have j2 := i2.keep k1
    simp (maxSteps := 4000000) (disch := omega) only [Zq, evO, vbox, wr, Zeq, if_true, if_false, Nat.reduceEqDiff, Nat.reduceAdd, Nat.reduceLeDiff, Nat.reduceSub, and_self, and_true, true_and, reduceIte, reduceCtorEq, eq_self, implies_true, forall_const, false_implies, imp_self, decide_true, decide_false, fix_nil, fix_cons, t0, t1, t5, l1]
    refine G_calm rfl ?_
    simp (maxSteps := 4000000) (disch := omega) only [Zq, evO, vbox, wr, Zeq, if_true, if_false, Nat.reduceEqDiff, Nat.reduceAdd, Nat.reduceLeDiff, Nat.reduceSub, and_self, and_true, true_and, reduceIte, reduceCtorEq, eq_self, implies_true, forall_const, false_implies, imp_self, decide_true, decide_false, fix_nil, fix_cons, t0, t1, t5, j1.idx hin, j1.ld hin, j2.idx hin, j2.ld hin]
    exact ⟨hin, k1⟩
  · obtain rfl : i = xs.length := by omega
    simp (maxSteps := 4000000) (disch := omega) only [Zq, evO, vbox, wr, Zeq, if_true, if_false, Nat.reduceEqDiff, Nat.reduceAdd, Nat.reduceLeDiff, Nat.reduceSub, and_self, and_true, true_and, reduceIte, reduceCtorEq, eq_self, implies_true, forall_const, false_implies, imp_self, decide_true, decide_false, fix_nil, fix_cons, t0, t1, t5, l1]
    exact k1
theorem r_laws_sameBools {xs : List Bool} (h1 : (rSlc rBool).rd H [v] xs) (h2 : (rSlc rBool).rd H [w] xs) (hl : xs.length ≤ 1048576) : Run Try.prog 51 [v, w] H fun r H' => Keep H H' ∧ r = .bool true := by
  have l1 : ∀ H : Heap, vlen H v = some (.int .i64 xs.length, H) := fun _ => slc_len h1
  have l2 : ∀ H : Heap, vlen H w = some (.int .i64 xs.length, H) := fun _ => slc_len h2
  refine Run.intro c51 rfl ?_
  simp (maxSteps := 4000000) (disch := omega) only [Zq, evO, vbox, wr, Zeq, if_true, if_false, Nat.reduceEqDiff, Nat.reduceAdd, Nat.reduceLeDiff, Nat.reduceSub, and_self, and_true, true_and, reduceIte, reduceCtorEq, eq_self, implies_true, forall_const, false_implies, imp_self, decide_true, decide_false, x51, l1, l2]
  refine G_forF [0, 1] (xs.length) (fun i T H1 => T 5 = .int .i64 (i : Int) ∧ Keep H H1) 0 (Nat.zero_le _) ?_ ?_
  · simp (maxSteps := 4000000) (disch := omega) only [Zq, evO, vbox, wr, Zeq, if_true, if_false, Nat.reduceEqDiff, Nat.reduceAdd, Nat.reduceLeDiff, Nat.reduceSub, and_self, and_true, true_and, reduceIte, reduceCtorEq, eq_self, implies_true, forall_const, false_implies, imp_self, decide_true, decide_false, fix_nil, fix_cons]
    exact Keep.refl _
  rintro i T H1 hi hT ⟨t5, k1⟩
  simp only [fix_nil, fix_cons, Zq, evO, vbox, wr, Zeq, if_true, if_false, Nat.reduceEqDiff, Nat.reduceAdd, Nat.reduceLeDiff, Nat.reduceSub, and_self, and_true, true_and, reduceIte, reduceCtorEq, eq_self, implies_true, forall_const, false_implies, imp_self, decide_true, decide_false] at hT
  obtain ⟨t0, t1⟩ := hT
  by_cases hin : i < xs.length
  · have ix1 := fun H0 : Heap => slc_idx (r := rBool) (H1 := H0) (sz := 1) (i := i) (k := .i64) rfl h1 hin
    have ix2 := fun H0 : Heap => slc_idx (r := rBool) (H1 := H0) (sz := 1) (i := i) (k := .i64) rfl h2 hin
    have e1 := bool_el ((rSlc rBool).rdk h1 k1) hin
    have e2 := bool_el ((rSlc rBool).rdk h2 k1) hin
    simp (maxSteps := 4000000) (disch := omega) only [Zq, evO, vbox, wr, Zeq, if_true, if_false, Nat.reduceEqDiff, Nat.reduceAdd, Nat.reduceLeDiff, Nat.reduceSub, and_self, and_true, true_and, reduceIte, reduceCtorEq, eq_self, implies_true, forall_const, false_implies, imp_self, decide_true, decide_false, fix_nil, fix_cons, t0, t1, t5, l1]
    refine G_calm rfl ?_
    simp (maxSteps := 4000000) (disch := omega) only [Zq, evO, vbox, wr, Zeq, if_true, if_false, Nat.reduceEqDiff, Nat.reduceAdd, Nat.reduceLeDiff, Nat.reduceSub, and_self, and_true, true_and, reduceIte, reduceCtorEq, eq_self, implies_true, forall_const, false_implies, imp_self, decide_true, decide_false, fix_nil, fix_cons, t0, t1, t5, ix1, ix2, e1, e2, vbinB_ne, bne_self_eq_false]
    exact ⟨hin, k1⟩
  · obtain rfl : i = xs.length := by omega
    simp (maxSteps := 4000000) (disch := omega) only [Zq, evO, vbox, wr, Zeq, if_true, if_false, Nat.reduceEqDiff, Nat.reduceAdd, Nat.reduceLeDiff, Nat.reduceSub, and_self, and_true, true_and, reduceIte, reduceCtorEq, eq_self, implies_true, forall_const, false_implies, imp_self, decide_true, decide_false, fix_nil, fix_cons, t0, t1, t5, l1]
    exact k1
end
section
variable {H : Heap} {v0 v1 v2 w0 w1 w2 : Value}
theorem r_laws_sameLocking {L : Lo} (h0 : (rSlc rInt).rd H [v0] L.1) (h1 : (rSlc rBool).rd H [v1] L.2.1) (h2 : (rSlc rBool).rd H [v2] L.2.2) (g0 : (rSlc rInt).rd H [w0] L.1) (g1 : (rSlc rBool).rd H [w1] L.2.1) (g2 : (rSlc rBool).rd H [w2] L.2.2) (ht : rLocking.tot L ≤ 1048576) : Run Try.prog 19 [.agg #[v0, v1, v2], .agg #[w0, w1, w2]] H fun r H' => Keep H H' ∧ r = .bool true := by
  obtain ⟨m1, m2, m3⟩ := lock_tot (pos := L.1) (set := L.2.1) (taken := L.2.2) ht
  have r0 := h0
  have r1 := h1
  have r2 := h2
  have s0 := g0
  have s1 := g1
  have s2 := g2
  clear h0 h1 h2 g0 g1 g2
  refine Run.intro c19 rfl ?_
  simp (maxSteps := 4000000) (disch := omega) only [Zq, evO, vbox, wr, Zeq, if_true, if_false, Nat.reduceEqDiff, Nat.reduceAdd, Nat.reduceLeDiff, Nat.reduceSub, and_self, and_true, true_and, reduceIte, reduceCtorEq, eq_self, implies_true, forall_const, false_implies, imp_self, decide_true, decide_false, x19]
  generalize hG0 : (H.push [v0, v1, v2]).push [w0, w1, w2] = H0
  have k0 : Keep H H0 := by rw [← hG0]; repeat' (first | exact Keep.refl _ | assumption | refine Keep.push' ?_ | refine Keep.set' ?_ ?_ | refine Keep.moved' ?_ ?_ | omega)
  have g0 : H0.get H.nxt = some (.own [v0, v1, v2]) := by rw [← hG0]; simp (maxSteps := 4000000) (disch := omega) only [Zq, evO, vbox, wr, Zeq, if_true, if_false, Nat.reduceEqDiff, Nat.reduceAdd, Nat.reduceLeDiff, Nat.reduceSub, and_self, and_true, true_and, reduceIte, reduceCtorEq, eq_self, implies_true, forall_const, false_implies, imp_self, decide_true, decide_false]
  have g0w : H0.get (H.nxt + 1) = some (.own [w0, w1, w2]) := by rw [← hG0]; simp (maxSteps := 4000000) (disch := omega) only [Zq, evO, vbox, wr, Zeq, if_true, if_false, Nat.reduceEqDiff, Nat.reduceAdd, Nat.reduceLeDiff, Nat.reduceSub, and_self, and_true, true_and, reduceIte, reduceCtorEq, eq_self, implies_true, forall_const, false_implies, imp_self, decide_true, decide_false]
  have n0 : H0.nxt = H.nxt + 2 := by rw [← hG0]; simp only [Zbg]
  clear hG0
  refine GO_call ((r_laws_sameInts ((rSlc rInt).rdk r0 k0) ((rSlc rInt).rdk s0 k0) m1).mono ?_)
  rintro _ H1 ⟨k1, rfl⟩
  have n1 := k1.nxt
  have g1 := (k1.get (H.nxt) (by omega)).trans g0
  have g1w := (k1.get (H.nxt + 1) (by omega)).trans g0w
  have k01 := k0.trans k1
  simp (maxSteps := 4000000) (disch := omega) only [Zq, evO, vbox, wr, Zeq, if_true, if_false, Nat.reduceEqDiff, Nat.reduceAdd, Nat.reduceLeDiff, Nat.reduceSub, and_self, and_true, true_and, reduceIte, reduceCtorEq, eq_self, implies_true, forall_const, false_implies, imp_self, decide_true, decide_false, fix_nil, fix_cons, g0, g0w, g1, g1w]
  refine GO_call ((r_laws_sameBools ((rSlc rBool).rdk r1 k01) ((rSlc rBool).rdk s1 k01) m2).mono ?_)
  rintro _ H2 ⟨k2, rfl⟩
  have n2 := k2.nxt
  have g2 := (k2.get (H.nxt) (by omega)).trans g1
  have g2w := (k2.get (H.nxt + 1) (by omega)).trans g1w
  have k02 := k01.trans k2
  simp (maxSteps := 4000000) (disch := omega) only [Zq, evO, vbox, wr, Zeq, if_true, if_false, Nat.reduceEqDiff, Nat.reduceAdd, Nat.reduceLeDiff, Nat.reduceSub, and_self, and_true, true_and, reduceIte, reduceCtorEq, eq_self, implies_true, forall_const, false_implies, imp_self, decide_true, decide_false, fix_nil, fix_cons, g0, g0w, g1, g1w, g2, g2w]
  refine GO_call ((r_laws_sameBools ((rSlc rBool).rdk r2 k02) ((rSlc rBool).rdk s2 k02) m3).mono ?_)
  rintro _ H3 ⟨k3, rfl⟩
  have n3 := k3.nxt
  simp (maxSteps := 4000000) (disch := omega) only [Zq, evO, vbox, wr, Zeq, if_true, if_false, Nat.reduceEqDiff, Nat.reduceAdd, Nat.reduceLeDiff, Nat.reduceSub, and_self, and_true, true_and, reduceIte, reduceCtorEq, eq_self, implies_true, forall_const, false_implies, imp_self, decide_true, decide_false, fix_nil, fix_cons, g0, g0w, g1, g1w, g2, g2w]
  exact k02.trans k3
end
end Go.Proofs.Ythjphddodooahaa.AX
namespace Go.Proofs.Ythjphddodooahaa.AX
open Go
set_option maxRecDepth 10000
set_option maxHeartbeats 4000000
set_option linter.unusedSimpArgs false
set_option linter.unusedVariables false
/-- A plant under construction in the box q; old memory is as it was, but for the cursor at p. -/
structure DP (B : Heap) (v : Value) (code : List Int) (p : Nat) (H : Heap) (q : Nat) (H1 : Heap) (vu : Value) (b : Int) (vr : Value) (under : List Int) (routes : List Rt) (Fu Fr : List Nat) : Prop where
  chg : Chg [p] H H1
  cur : Cur B v code H1 p
  pl : p < H.nxt
  q0 : H.nxt ≤ q
  q1 : q < H1.nxt
  g : H1.get q = some (.own [vu, .int .i64 b, vr])
  ou : (rSlc rInt).own H1 [vu] under Fu
  orr : (rSlc rRoute).own H1 [vr] routes Fr
  nu : Fu.Nodup
  nr : Fr.Nodup
  fu : ∀ a ∈ Fu, H.nxt ≤ a ∧ a ≠ q ∧ a ∉ Fr
  fr : ∀ a ∈ Fr, H.nxt ≤ a ∧ a ≠ q
section
variable {B : Heap} {v : Value} {code : List Int} {p : Nat} {H : Heap} {q : Nat} {H1 H2 : Heap} {vu : Value} {b : Int} {vr : Value} {under : List Int} {routes : List Rt} {Fu Fr : List Nat}
theorem DP.mv (h : DP B v code p H q H1 vu b vr under routes Fu Fr) (c : Chg [p] H1 H2) (cu : Cur B v code H2 p) : DP B v code p H q H2 vu b vr under routes Fu Fr := by
  have pl := h.pl
  have q0 := h.q0
  exact ⟨h.chg.trans c, cu, pl, q0, Nat.lt_of_lt_of_le h.q1 c.nxt, (c.get _ h.q1 (by simp; omega)).trans h.g, (rSlc rInt).ownChg h.ou c (fun a ha hm => by have := h.fu a ha; simp at hm; omega), (rSlc rRoute).ownChg h.orr c (fun a ha hm => by have := h.fr a ha; simp at hm; omega), h.nu, h.nr, h.fu, h.fr⟩
theorem DP.keep (h : DP B v code p H q H1 vu b vr under routes Fu Fr) (k : Keep H1 H2) : DP B v code p H q H2 vu b vr under routes Fu Fr := h.mv k.chg (h.cur.chg k)
theorem cur_ch {G : List Nat} (h : Cur B v code H1 p) (n : H1.nxt ≤ H2.nxt) (g : ∀ a, a < H1.nxt → a ∉ G → H2.get a = H1.get a) (hB : ∀ a ∈ G, B.nxt ≤ a) (hp : p ∉ G) : Cur B v code H2 p := by
  obtain ⟨h1, h2, h3, pos, seed, h4, h5⟩ := h
  exact ⟨⟨Nat.le_trans h1.nxt n, fun a ha => (g a (Nat.lt_of_lt_of_le ha h1.nxt) (fun hm => by have := hB a hm; omega)).trans (h1.get a ha)⟩, h2, Nat.lt_of_lt_of_le h3 n, pos, seed, by rw [g p h3 hp]; exact h4, h5⟩
/-- A point more. -/
theorem DP.pt (h : DP B v code p H q H1 vu b vr under routes Fu Fr) (z : Int) (hl : (under.length + 1) * 8 ≤ 140737488355328) :
    ∃ u H2, vapp (H1.push [.int .i64 z]) 1 8 vu (.slice (some ⟨H1.nxt, 0, none⟩) 1 1) = some (u, H2) ∧ H1.nxt ≤ H2.nxt ∧ H2.get q = some (.own [vu, .int .i64 b, vr]) ∧ (∀ a, a < H1.nxt → a ∉ Fu → H2.get a = H1.get a) ∧ vcells u = [u] ∧ noTup u = true ∧ ∃ Fu', DP B v code p H q (H2.set q [u, .int .i64 b, vr]) u b vr (under ++ [z]) routes Fu' Fr := by
  obtain ⟨u, H2, F', e, o, c, f, nd, _⟩ := own_app (bytes := 8) (r := rInt) (sz := 1) rfl (by omega) h.ou (row := [.int .i64 z]) (y := z) (G := []) ⟨rfl, rfl⟩ h.nu (by simp) (by simp) hl
  have n := c.nxt
  have q0 := h.q0
  have q1 := h.q1
  have pl := h.pl
  have nH := h.chg.nxt
  have bp := h.cur.2.1
  have old : ∀ a, a < H1.nxt → a ∉ Fu → H2.get a = H1.get a := fun a ha hm => c.get a ha hm
  have ltr := (rSlc rRoute).ownlt h.orr
  have qF : q ∉ Fu := fun hm => (h.fu q hm).2.1 rfl
  have fF' : ∀ a ∈ F', H.nxt ≤ a ∧ a ≠ q ∧ a ∉ Fr := fun a ha => by
    rcases f a ha with h1 | h1 | h1
    · exact h.fu a h1
    · simp at h1
    · exact ⟨by omega, by omega, fun hm => by have := ltr a hm; omega⟩
  obtain ⟨a1, a2⟩ := slc_cell ((rSlc rInt).ownrd o)
  have cu : Cur B v code (H2.set q [u, .int .i64 b, vr]) p := cur_ch (G := q :: Fu) h.cur (by rw [Zbh]; exact n) (fun a ha hm => by
    simp only [List.mem_cons, not_or] at hm
    rw [Zbi, if_neg hm.1, old a ha hm.2]) (fun a ha => by
    rcases List.mem_cons.1 ha with rfl | ha
    · omega
    · have := h.fu a ha; omega) (fun hm => by
    rcases List.mem_cons.1 hm with h1 | h1
    · omega
    · have := h.fu p h1; omega)
  refine ⟨u, H2, e, n, (old q q1 qF).trans h.g, old, a1, a2, F', ⟨⟨by rw [Zbh]; omega, fun a ha hm => ?_⟩, cu, pl, q0, by rw [Zbh]; omega, by rw [Zbi, if_pos rfl], (rSlc rInt).ownk o (by rw [Zbh]; omega) (fun a ha => by rw [Zbi, if_neg (fF' a ha).2.1]), (rSlc rRoute).ownk h.orr (by rw [Zbh]; omega) (fun a ha => ?_), nd, h.nr, fF', h.fr⟩⟩
  · rw [Zbi, if_neg (by omega), old a (by omega) (fun hh => by have := h.fu a hh; omega), h.chg.get a ha hm]
  · rw [Zbi, if_neg (h.fr a ha).2, old a (ltr a ha) (fun hh => (h.fu a hh).2.2 ha)]
/-- A route more. -/
theorem DP.way (h : DP B v code p H q H1 vu b vr under routes Fu Fr) {vn vb : Value} {ns : List Nd} {bs : List Int} {G : List Nat} (hy : rRoute.own H1 [vn, vb] (ns, bs) G) (hG : G.Nodup) (hd : ∀ a ∈ G, H.nxt ≤ a ∧ a ≠ q ∧ a ∉ Fu ∧ a ∉ Fr) (hl : (routes.length + 1) * 48 ≤ 140737488355328) :
    ∃ u H2, vapp (H1.push [vn, vb]) 2 48 vr (.slice (some ⟨H1.nxt, 0, none⟩) 1 2) = some (u, H2) ∧ H1.nxt ≤ H2.nxt ∧ H2.get q = some (.own [vu, .int .i64 b, vr]) ∧ (∀ a, a < H1.nxt → a ∉ Fr → H2.get a = H1.get a) ∧ vcells u = [u] ∧ noTup u = true ∧ ∃ Fr', DP B v code p H q (H2.set q [vu, .int .i64 b, u]) vu b u under (routes ++ [(ns, bs)]) Fu Fr' := by
  obtain ⟨u, H2, F', e, o, c, f, nd, _⟩ := own_app (bytes := 48) (r := rRoute) (sz := 2) rfl (by omega) h.orr (row := [vn, vb]) (y := (ns, bs)) (G := G) hy h.nr hG (fun a ha => (hd a ha).2.2.2) hl
  have n := c.nxt
  have q0 := h.q0
  have q1 := h.q1
  have pl := h.pl
  have nH := h.chg.nxt
  have bp := h.cur.2.1
  have old : ∀ a, a < H1.nxt → a ∉ Fr → H2.get a = H1.get a := fun a ha hm => c.get a ha hm
  have ltu := (rSlc rInt).ownlt h.ou
  have qF : q ∉ Fr := fun hm => (h.fr q hm).2 rfl
  have fF' : ∀ a ∈ F', H.nxt ≤ a ∧ a ≠ q := fun a ha => by
    rcases f a ha with h1 | h1 | h1
    · exact h.fr a h1
    · exact ⟨(hd a h1).1, (hd a h1).2.1⟩
    · exact ⟨by omega, by omega⟩
  have fu' : ∀ a ∈ Fu, a ∉ F' := fun a ha hm => by
    rcases f a hm with h1 | h1 | h1
    · exact (h.fu a ha).2.2 h1
    · exact (hd a h1).2.2.1 ha
    · have := ltu a ha; omega
  obtain ⟨a1, a2⟩ := slc_cell ((rSlc rRoute).ownrd o)
  have cu : Cur B v code (H2.set q [vu, .int .i64 b, u]) p := cur_ch (G := q :: Fr) h.cur (by rw [Zbh]; exact n) (fun a ha hm => by
    simp only [List.mem_cons, not_or] at hm
    rw [Zbi, if_neg hm.1, old a ha hm.2]) (fun a ha => by
    rcases List.mem_cons.1 ha with rfl | ha
    · omega
    · have := h.fr a ha; omega) (fun hm => by
    rcases List.mem_cons.1 hm with h1 | h1
    · omega
    · have := h.fr p h1; omega)
  refine ⟨u, H2, e, n, (old q q1 qF).trans h.g, old, a1, a2, F', ⟨⟨by rw [Zbh]; omega, fun a ha hm => ?_⟩, cu, pl, q0, by rw [Zbh]; omega, by rw [Zbi, if_pos rfl], (rSlc rInt).ownk h.ou (by rw [Zbh]; omega) (fun a ha => ?_), (rSlc rRoute).ownk o (by rw [Zbh]; omega) (fun a ha => by rw [Zbi, if_neg (fF' a ha).2]), h.nu, nd, fun a ha => ⟨(h.fu a ha).1, (h.fu a ha).2.1, fu' a ha⟩, fF'⟩⟩
  · rw [Zbi, if_neg (by omega), old a (by omega) (fun hh => by have := h.fr a hh; omega), h.chg.get a ha hm]
  · rw [Zbi, if_neg (h.fu a ha).2.1, old a (ltu a ha) (fun hh => (h.fu a ha).2.2 hh)]
end
/-- A route under construction in the box q. -/
structure RP (B : Heap) (v : Value) (code : List Int) (p : Nat) (H : Heap) (q : Nat) (H1 : Heap) (vn vb : Value) (ns : List Nd) (bs : List Int) (Fn Fb : List Nat) : Prop where
  chg : Chg [p] H H1
  cur : Cur B v code H1 p
  pl : p < H.nxt
  q0 : H.nxt ≤ q
  q1 : q < H1.nxt
  g : H1.get q = some (.own [vn, vb])
  on : (rSlc rNeed).own H1 [vn] ns Fn
  ob : (rSlc rInt).own H1 [vb] bs Fb
  nn : Fn.Nodup
  nb : Fb.Nodup
  fn : ∀ a ∈ Fn, H.nxt ≤ a ∧ a ≠ q ∧ a ∉ Fb
  fb : ∀ a ∈ Fb, H.nxt ≤ a ∧ a ≠ q
section
variable {B : Heap} {v : Value} {code : List Int} {p : Nat} {H : Heap} {q : Nat} {H1 H2 : Heap} {vn vb : Value} {ns : List Nd} {bs : List Int} {Fn Fb : List Nat}
theorem RP.mv (h : RP B v code p H q H1 vn vb ns bs Fn Fb) (c : Chg [p] H1 H2) (cu : Cur B v code H2 p) : RP B v code p H q H2 vn vb ns bs Fn Fb := by
  have pl := h.pl
  have q0 := h.q0
  exact ⟨h.chg.trans c, cu, pl, q0, Nat.lt_of_lt_of_le h.q1 c.nxt, (c.get _ h.q1 (by simp; omega)).trans h.g, (rSlc rNeed).ownChg h.on c (fun a ha hm => by have := h.fn a ha; simp at hm; omega), (rSlc rInt).ownChg h.ob c (fun a ha hm => by have := h.fb a ha; simp at hm; omega), h.nn, h.nb, h.fn, h.fb⟩
theorem RP.keep (h : RP B v code p H q H1 vn vb ns bs Fn Fb) (k : Keep H1 H2) : RP B v code p H q H2 vn vb ns bs Fn Fb := h.mv k.chg (h.cur.chg k)
/-- A need more. -/
theorem RP.need (h : RP B v code p H q H1 vn vb ns bs Fn Fb) (x : Nd) (hl : (ns.length + 1) * 16 ≤ 140737488355328) :
    ∃ u H2, vapp (H1.push [.int .i64 x.1, .int .i64 x.2]) 2 16 vn (.slice (some ⟨H1.nxt, 0, none⟩) 1 2) = some (u, H2) ∧ H1.nxt ≤ H2.nxt ∧ H2.get q = some (.own [vn, vb]) ∧ (∀ a, a < H1.nxt → a ∉ Fn → H2.get a = H1.get a) ∧ vcells u = [u] ∧ noTup u = true ∧ ∃ Fn', RP B v code p H q (H2.set q [u, vb]) u vb (ns ++ [x]) bs Fn' Fb := by
  obtain ⟨u, H2, F', e, o, c, f, nd, _⟩ := own_app (bytes := 16) (r := rNeed) (sz := 2) rfl (by omega) h.on (row := [.int .i64 x.1, .int .i64 x.2]) (y := x) (G := []) ⟨rfl, rfl⟩ h.nn (by simp) (by simp) hl
  have n := c.nxt
  have q0 := h.q0
  have q1 := h.q1
  have pl := h.pl
  have nH := h.chg.nxt
  have bp := h.cur.2.1
  have old : ∀ a, a < H1.nxt → a ∉ Fn → H2.get a = H1.get a := fun a ha hm => c.get a ha hm
  have ltr := (rSlc rInt).ownlt h.ob
  have qF : q ∉ Fn := fun hm => (h.fn q hm).2.1 rfl
  have fF' : ∀ a ∈ F', H.nxt ≤ a ∧ a ≠ q ∧ a ∉ Fb := fun a ha => by
    rcases f a ha with h1 | h1 | h1
    · exact h.fn a h1
    · simp at h1
    · exact ⟨by omega, by omega, fun hm => by have := ltr a hm; omega⟩
  obtain ⟨a1, a2⟩ := slc_cell ((rSlc rNeed).ownrd o)
  have cu : Cur B v code (H2.set q [u, vb]) p := cur_ch (G := q :: Fn) h.cur (by rw [Zbh]; exact n) (fun a ha hm => by
    simp only [List.mem_cons, not_or] at hm
    rw [Zbi, if_neg hm.1, old a ha hm.2]) (fun a ha => by
    rcases List.mem_cons.1 ha with rfl | ha
    · omega
    · have := h.fn a ha; omega) (fun hm => by
    rcases List.mem_cons.1 hm with h1 | h1
    · omega
    · have := h.fn p h1; omega)
  refine ⟨u, H2, e, n, (old q q1 qF).trans h.g, old, a1, a2, F', ⟨⟨by rw [Zbh]; omega, fun a ha hm => ?_⟩, cu, pl, q0, by rw [Zbh]; omega, by rw [Zbi, if_pos rfl], (rSlc rNeed).ownk o (by rw [Zbh]; omega) (fun a ha => by rw [Zbi, if_neg (fF' a ha).2.1]), (rSlc rInt).ownk h.ob (by rw [Zbh]; omega) (fun a ha => ?_), nd, h.nb, fF', h.fb⟩⟩
  · rw [Zbi, if_neg (by omega), old a (by omega) (fun hh => by have := h.fn a hh; omega), h.chg.get a ha hm]
  · rw [Zbi, if_neg (h.fb a ha).2, old a (ltr a ha) (fun hh => (h.fn a hh).2.2 ha)]
/-- A block more. -/
theorem RP.block (h : RP B v code p H q H1 vn vb ns bs Fn Fb) (x : Int) (hl : (bs.length + 1) * 8 ≤ 140737488355328) :
    ∃ u H2, vapp (H1.push [.int .i64 x]) 1 8 vb (.slice (some ⟨H1.nxt, 0, none⟩) 1 1) = some (u, H2) ∧ H1.nxt ≤ H2.nxt ∧ H2.get q = some (.own [vn, vb]) ∧ (∀ a, a < H1.nxt → a ∉ Fb → H2.get a = H1.get a) ∧ vcells u = [u] ∧ noTup u = true ∧ ∃ Fb', RP B v code p H q (H2.set q [vn, u]) vn u ns (bs ++ [x]) Fn Fb' := by
  obtain ⟨u, H2, F', e, o, c, f, nd, _⟩ := own_app (bytes := 8) (r := rInt) (sz := 1) rfl (by omega) h.ob (row := [.int .i64 x]) (y := x) (G := []) ⟨rfl, rfl⟩ h.nb (by simp) (by simp) hl
  have n := c.nxt
  have q0 := h.q0
  have q1 := h.q1
  have pl := h.pl
  have nH := h.chg.nxt
  have bp := h.cur.2.1
  have old : ∀ a, a < H1.nxt → a ∉ Fb → H2.get a = H1.get a := fun a ha hm => c.get a ha hm
  have ltn := (rSlc rNeed).ownlt h.on
  have qF : q ∉ Fb := fun hm => (h.fb q hm).2 rfl
  have fF' : ∀ a ∈ F', H.nxt ≤ a ∧ a ≠ q := fun a ha => by
    rcases f a ha with h1 | h1 | h1
    · exact h.fb a h1
    · simp at h1
    · exact ⟨by omega, by omega⟩
  have fn' : ∀ a ∈ Fn, a ∉ F' := fun a ha hm => by
    rcases f a hm with h1 | h1 | h1
    · exact (h.fn a ha).2.2 h1
    · simp at h1
    · have := ltn a ha; omega
  obtain ⟨a1, a2⟩ := slc_cell ((rSlc rInt).ownrd o)
  have cu : Cur B v code (H2.set q [vn, u]) p := cur_ch (G := q :: Fb) h.cur (by rw [Zbh]; exact n) (fun a ha hm => by
    simp only [List.mem_cons, not_or] at hm
    rw [Zbi, if_neg hm.1, old a ha hm.2]) (fun a ha => by
    rcases List.mem_cons.1 ha with rfl | ha
    · omega
    · have := h.fb a ha; omega) (fun hm => by
    rcases List.mem_cons.1 hm with h1 | h1
    · omega
    · have := h.fb p h1; omega)
  refine ⟨u, H2, e, n, (old q q1 qF).trans h.g, old, a1, a2, F', ⟨⟨by rw [Zbh]; omega, fun a ha hm => ?_⟩, cu, pl, q0, by rw [Zbh]; omega, by rw [Zbi, if_pos rfl], (rSlc rNeed).ownk h.on (by rw [Zbh]; omega) (fun a ha => ?_), (rSlc rInt).ownk o (by rw [Zbh]; omega) (fun a ha => by rw [Zbi, if_neg (fF' a ha).2]), h.nn, nd, fun a ha => ⟨(h.fn a ha).1, (h.fn a ha).2.1, fn' a ha⟩, fF'⟩⟩
  · rw [Zbi, if_neg (by omega), old a (by omega) (fun hh => by have := h.fb a hh; omega), h.chg.get a ha hm]
  · rw [Zbi, if_neg (h.fn a ha).2.1, old a (ltn a ha) (fun hh => (h.fn a ha).2.2 hh)]
end
end Go.Proofs.Ythjphddodooahaa.AX
namespace Go.Proofs.Ythjphddodooahaa.AX
open Go
set_option maxRecDepth 10000
set_option maxHeartbeats 4000000
set_option linter.unusedSimpArgs false
set_option linter.unusedVariables false
def NdsP (n : Nat) (ns : List Nd) (i : Nat) : Prop := (∀ j, j < ns.length → ndOk n ns j = true) ∧ ∀ j, j < ns.length → (nd ns j).1 < (i : Int)
def BksP (b : Int) (bs : List Int) : Prop := ∀ j, j < bs.length → bkOk b bs j = true
theorem getD_app {α : Type} {l : List α} {x d : α} {i : Nat} : (l ++ [x]).getD i d = if i < l.length then l.getD i d else if i = l.length then x else d := by
  simp only [List.getD_eq_getElem?_getD]
  by_cases h : i < l.length
  · rw [List.getElem?_append_left h, if_pos h]
  · rw [List.getElem?_append_right (by omega), if_neg h]
    by_cases h2 : i = l.length
    · subst h2; simp
    · rw [if_neg h2]
      have : i - l.length ≠ 0 := by omega
      simp [this]
theorem NdsP.more {n : Nat} {ns : List Nd} {i : Nat} (h : NdsP n ns i) : NdsP n ns (i + 1) := ⟨h.1, fun j hj => by have := h.2 j hj; omega⟩
theorem NdsP.app {n : Nat} {ns : List Nd} {i : Nat} {z : Int} (h : NdsP n ns i) (hi : i < n) (hz : 0 ≤ z ∧ z ≤ 1) : NdsP n (ns ++ [((i : Int), z)]) (i + 1) := by
  have e : ∀ j, nd (ns ++ [((i : Int), z)]) j = if j < ns.length then nd ns j else if j = ns.length then ((i : Int), z) else (0, 0) := fun j => getD_app
  refine ⟨fun j hj => ?_, fun j hj => ?_⟩
  · rw [List.length_append, List.length_singleton] at hj
    by_cases h1 : j < ns.length
    · have h2 := h.1 j h1
      rw [ndOk] at h2 ⊢
      rw [e, if_pos h1, e, if_pos (by omega)]
      exact h2
    · obtain rfl : j = ns.length := by omega
      rw [ndOk, e, if_neg (by omega), if_pos rfl]
      simp only [Bool.and_eq_true, inR_iff, Bool.not_eq_true', Bool.and_eq_false_iff, decide_eq_false_iff_not]
      refine ⟨by omega, hz, ?_⟩
      by_cases h0 : 0 < ns.length
      · rw [e, if_pos (by omega)]
        have := h.2 (ns.length - 1) (by omega)
        exact .inr (by omega)
      · exact .inl h0
  · rw [List.length_append, List.length_singleton] at hj
    rw [e]
    split
    · rename_i h1; have := h.2 j h1; omega
    · rw [if_pos (by omega)]; show (i : Int) < _; omega
theorem BksP.app {b : Int} {bs : List Int} {x : Int} (h : BksP b bs) (hx : inR 0 (b - 1) x = true) (hn : bs.contains x = false) : BksP b (bs ++ [x]) := by
  intro j hj
  rw [List.length_append, List.length_singleton] at hj
  rw [bkOk, getD_app]
  by_cases h1 : j < bs.length
  · rw [if_pos h1, List.take_append_of_le_length (by omega)]
    exact h j h1
  · obtain rfl : j = bs.length := by omega
    rw [if_neg h1, if_pos rfl, List.take_append_of_le_length (Nat.le_refl _), List.take_length, hx, hn]
    rfl
section
variable {B : Heap} {v : Value} {code : List Int} {p : Nat} {H : Heap}
theorem r_spec_l01Once {n : Nat} (hb : Bts' B v code) (hl : code.length ≤ 1048576) (hc : ∀ x ∈ code, 0 ≤ x ∧ x ≤ 255) (c : Cur B v code H p) (hn : 1 ≤ n) (hn' : n ≤ 1000000) : Run Try.prog 74 [ptr p 0, .int .i64 (n : Int)] H fun r H' => Chg [p] H H' ∧ Cur B v code H' p ∧ ∃ t : Bool, r = .bool t := by
  refine Run.intro c74 rfl ?_
  simp (maxSteps := 4000000) (disch := omega) only [Zq, evO, vbox, wr, Zeq, if_true, if_false, Nat.reduceEqDiff, Nat.reduceAdd, Nat.reduceLeDiff, Nat.reduceSub, and_self, and_true, true_and, reduceIte, reduceCtorEq, eq_self, implies_true, forall_const, false_implies, imp_self, decide_true, decide_false, x74]
  refine GO_call ((r_spec_l01Below hb hl hc c hn hn').mono ?_)
  rintro _ H1 ⟨c1, u1, z, rfl, hz⟩
  simp (maxSteps := 4000000) (disch := omega) only [Zq, evO, vbox, wr, Zeq, if_true, if_false, Nat.reduceEqDiff, Nat.reduceAdd, Nat.reduceLeDiff, Nat.reduceSub, and_self, and_true, true_and, reduceIte, reduceCtorEq, eq_self, implies_true, forall_const, false_implies, imp_self, decide_true, decide_false, fix_nil, fix_cons]
  exact ⟨c1, u1, _, rfl⟩
end
end Go.Proofs.Ythjphddodooahaa.AX
namespace Go.Proofs.Ythjphddodooahaa.AX
open Go
set_option maxRecDepth 10000
set_option maxHeartbeats 4000000
set_option linter.unusedSimpArgs false
set_option linter.unusedVariables false
section
variable {B : Heap} {v : Value} {code : List Int} {p : Nat} {H : Heap}
theorem r_spec_l06DrawRight (hb : Bts' B v code) (hl : code.length ≤ 1048576) (hc : ∀ x ∈ code, 0 ≤ x ∧ x ≤ 255) (c : Cur B v code H p) : Run Try.prog 45 [ptr p 0] H fun r H' => Chg [p] H H' ∧ Cur B v code H' p ∧ ∃ vu vr under b routes Fu Fr, r = .agg #[vu, .int .i64 b, vr] ∧ (rSlc rInt).own H' [vu] under Fu ∧ (rSlc rRoute).own H' [vr] routes Fr ∧ (∀ a ∈ Fu ++ Fr, H.nxt ≤ a) ∧ plOk under b routes = true ∧ 1 ≤ routes.length ∧ rPlant.tot (under, b, routes) ≤ 1048576 ∧ ∃ m : Nat, b = (m : Int) := by
  refine Run.intro c45 rfl ?_
  simp (maxSteps := 4000000) (disch := omega) only [Zq, evO, vbox, wr, Zeq, if_true, if_false, Nat.reduceEqDiff, Nat.reduceAdd, Nat.reduceLeDiff, Nat.reduceSub, and_self, and_true, true_and, reduceIte, reduceCtorEq, eq_self, implies_true, forall_const, false_implies, imp_self, decide_true, decide_false, x45]
  generalize hG0 : H.push [.slice none 0 0, .int .i64 0, .slice none 0 0] = H0
  have k0 : Keep H H0 := by rw [← hG0]; exact Keep.push _ _
  have g0 : H0.get H.nxt = some (.own [.slice none 0 0, .int .i64 0, .slice none 0 0]) := by rw [← hG0, push_get', if_pos rfl]
  have n0 : H0.nxt = H.nxt + 1 := by rw [← hG0, Zbg]
  refine GO_call ((r_spec_l01Below (n := 6) hb hl hc (c.chg k0) (by omega) (by omega)).mono ?_)
  rintro _ H1 ⟨g1c, c1, z1, rfl, hz1⟩
  have hp := c.2.2.1
  have n1 := g1c.nxt
  have hw1 : IntKind.i64.wrap (2 + (z1 : Int)) = ((2 + z1 : Nat) : Int) := by rw [wrap64 (by omega) (by omega)]; omega
  have g1 := (g1c.get H.nxt (by omega) (by simp; omega)).trans g0
  simp (maxSteps := 4000000) (disch := omega) only [Zq, evO, vbox, wr, Zeq, if_true, if_false, Nat.reduceEqDiff, Nat.reduceAdd, Nat.reduceLeDiff, Nat.reduceSub, and_self, and_true, true_and, reduceIte, reduceCtorEq, eq_self, implies_true, forall_const, false_implies, imp_self, decide_true, decide_false, fix_nil, fix_cons, g0, g1c, g1, hw1]
  obtain ⟨m, hm⟩ : ∃ m : Nat, m = 2 + z1 := ⟨_, rfl⟩
  rw [← hm]
  generalize hG2 : (H1.push [.slice none 0 0, .int .i64 0, .slice none 0 0]).set H1.nxt [.slice none 0 0, .int .i64 (m : Int), .slice none 0 0] = H2
  have k2 : Keep H1 H2 := by rw [← hG2]; repeat' (first | exact Keep.refl _ | assumption | refine Keep.push' ?_ | refine Keep.set' ?_ ?_ | refine Keep.moved' ?_ ?_ | omega)
  have g2 : H2.get H1.nxt = some (.own [.slice none 0 0, .int .i64 (m : Int), .slice none 0 0]) := by rw [← hG2, Zbi, if_pos rfl]
  have n2 : H2.nxt = H1.nxt + 1 := by rw [← hG2, Zbh, Zbg]
  have D2 : DP B v code p H0 H1.nxt H2 (.slice none 0 0) (m : Int) (.slice none 0 0) [] [] [] [] := ⟨g1c.trans k2.chg, c1.chg k2, by omega, n1, by omega, g2, .inl ⟨rfl, rfl, rfl⟩, .inl ⟨rfl, rfl, rfl⟩, by simp, by simp, by simp, by simp⟩
  clear hG2 g1 g2
  refine GO_call ((r_spec_l01Below (n := 5) hb hl hc D2.cur (by omega) (by omega)).mono ?_)
  rintro _ H3 ⟨g3c, c3, z2, rfl, hz2⟩
  have D3 := D2.mv g3c c3
  simp (maxSteps := 4000000) (disch := omega) only [Zq, evO, vbox, wr, Zeq, if_true, if_false, Nat.reduceEqDiff, Nat.reduceAdd, Nat.reduceLeDiff, Nat.reduceSub, and_self, and_true, true_and, reduceIte, reduceCtorEq, eq_self, implies_true, forall_const, false_implies, imp_self, decide_true, decide_false, fix_nil, fix_cons, g0, g1c, g3c]
  refine G_loopF [0, 2, 3] (z2) (fun k T H4 => T 4 = .int .i64 (k : Int) ∧ ∃ vu under Fu, DP B v code p H0 H1.nxt H4 vu (m : Int) (.slice none 0 0) under [] Fu [] ∧ under.length + k ≤ 4 ∧ ∀ x ∈ under, 0 ≤ x ∧ x < (m : Int)) ?_ ?_
  · simp (maxSteps := 4000000) (disch := omega) only [Zq, evO, vbox, wr, Zeq, if_true, if_false, Nat.reduceEqDiff, Nat.reduceAdd, Nat.reduceLeDiff, Nat.reduceSub, and_self, and_true, true_and, reduceIte, reduceCtorEq, eq_self, implies_true, forall_const, false_implies, imp_self, decide_true, decide_false, fix_nil, fix_cons, g0, g1c, g3c]
    exact ⟨_, [], [], D3, by simp; omega, by simp⟩
  rintro k T H4 hT ⟨t4, vu, under, Fu, D4, hlen, hun⟩
  simp only [fix_nil, fix_cons, Zq, evO, vbox, wr, Zeq, if_true, if_false, Nat.reduceEqDiff, Nat.reduceAdd, Nat.reduceLeDiff, Nat.reduceSub, and_self, and_true, true_and, reduceIte, reduceCtorEq, eq_self, implies_true, forall_const, false_implies, imp_self, decide_true, decide_false] at hT
  obtain ⟨t0, t2, t3⟩ := hT
  have g4 := D4.g
  by_cases h0 : 0 < k
  · simp (maxSteps := 4000000) (disch := omega) only [Zq, evO, vbox, wr, Zeq, if_true, if_false, Nat.reduceEqDiff, Nat.reduceAdd, Nat.reduceLeDiff, Nat.reduceSub, and_self, and_true, true_and, reduceIte, reduceCtorEq, eq_self, implies_true, forall_const, false_implies, imp_self, decide_true, decide_false, fix_nil, fix_cons, g0, g1c, g3c, t0, t2, t3, t4, g4]
    simp (maxSteps := 4000000) (disch := omega) only [ZD, Zio, Zip, pre_, beq_self_eq_true, Nat.reduceBEq, Zq, evO, vbox, wr, Zeq, if_true, if_false, Nat.reduceEqDiff, Nat.reduceAdd, Nat.reduceLeDiff, Nat.reduceSub, and_self, and_true, true_and, reduceIte, reduceCtorEq, eq_self, implies_true, forall_const, false_implies, imp_self, decide_true, decide_false, fix_nil, fix_cons, g0, g1c, g3c, t0, t2, t3, t4, g4, G_dreg]
    refine GD_call_eq (by simp (maxSteps := 4000000) (disch := omega) only [Zq, evO, vbox, wr, Zeq, if_true, if_false, Nat.reduceEqDiff, Nat.reduceAdd, Nat.reduceLeDiff, Nat.reduceSub, and_self, and_true, true_and, reduceIte, reduceCtorEq, eq_self, implies_true, forall_const, false_implies, imp_self, decide_true, decide_false, fix_nil, fix_cons, g0, g1c, g3c, t0, t2, t3, t4, g4]) ((r_spec_l01Below (n := m) hb hl hc D4.cur (by omega) (by omega)).mono ?_)
    rintro _ H5 ⟨g5c, c5, z, rfl, hz⟩
    have D5 := D4.mv g5c c5
    have n5 := g5c.nxt
    have q4 := D4.q1
    have g5 := D5.g
    obtain ⟨u, H6, e6, n6, g6, old6, a1, a2, Fu', D6⟩ := D5.pt (z : Int) (by omega)
    have hw : IntKind.i64.wrap ((k : Int) - 1) = ((k - 1 : Nat) : Int) := by rw [wrap64 (by omega) (by omega)]; omega
    simp (maxSteps := 4000000) (disch := omega) only [ZD, Zio, Zip, pre_, beq_self_eq_true, Nat.reduceBEq, Zq, evO, vbox, wr, Zeq, if_true, if_false, Nat.reduceEqDiff, Nat.reduceAdd, Nat.reduceLeDiff, Nat.reduceSub, and_self, and_true, true_and, reduceIte, reduceCtorEq, eq_self, implies_true, forall_const, false_implies, imp_self, decide_true, decide_false, fix_nil, fix_cons, g0, g1c, g3c, t0, t2, t3, t4, g4, g5c, g5, g6, GD_app, e6, a1, a2, hw]
    first | with_reducible refine And.intro (by repeat' (first | apply And.intro | omega)) ?_ | skip
    exact ⟨k - 1, by omega, rfl, u, under ++ [(z : Int)], Fu', D6, by simp; omega, fun x hx => by
      rcases List.mem_append.1 hx with h | h
      · exact hun x h
      · simp at h; omega⟩
  obtain rfl : k = 0 := by omega
  simp (maxSteps := 4000000) (disch := omega) only [Zq, evO, vbox, wr, Zeq, if_true, if_false, Nat.reduceEqDiff, Nat.reduceAdd, Nat.reduceLeDiff, Nat.reduceSub, and_self, and_true, true_and, reduceIte, reduceCtorEq, eq_self, implies_true, forall_const, false_implies, imp_self, decide_true, decide_false, fix_nil, fix_cons, g0, g1c, g3c, t0, t2, t3, t4, g4]
  refine GO_call ((r_spec_l01Below (n := 5) hb hl hc D4.cur (by omega) (by omega)).mono ?_)
  rintro _ H5 ⟨g5c, c5, z3, rfl, hz3⟩
  have D5 := D4.mv g5c c5
  have hw3 : IntKind.i64.wrap (1 + (z3 : Int)) = ((1 + z3 : Nat) : Int) := by rw [wrap64 (by omega) (by omega)]; omega
  simp (maxSteps := 4000000) (disch := omega) only [Zq, evO, vbox, wr, Zeq, if_true, if_false, Nat.reduceEqDiff, Nat.reduceAdd, Nat.reduceLeDiff, Nat.reduceSub, and_self, and_true, true_and, reduceIte, reduceCtorEq, eq_self, implies_true, forall_const, false_implies, imp_self, decide_true, decide_false, fix_nil, fix_cons, g0, g1c, g3c, t0, t2, t3, t4, g4, g5c, hw3]
  have ul : under.length ≤ 4 := by omega
  have lu : ∀ H : Heap, vlen H vu = some (.int .i64 under.length, H) := fun _ => slc_len ((rSlc rInt).ownrd D5.ou)
  clear hlen g4 D4 D3 D2
  refine G_loopF [0, 2, 3] ((1 + z3)) (fun k T H6 => T 5 = .int .i64 (k : Int) ∧ ∃ vr routes Fr, DP B v code p H0 H1.nxt H6 vu (m : Int) vr under routes Fu Fr ∧ 1 ≤ routes.length + k ∧ routes.length + k ≤ 5 ∧ (rSlc rRoute).tot routes ≤ 20 * routes.length ∧ ∀ r ∈ routes, rtOk under.length (m : Int) r = true) ?_ ?_
  · simp (maxSteps := 4000000) (disch := omega) only [Zq, evO, vbox, wr, Zeq, if_true, if_false, Nat.reduceEqDiff, Nat.reduceAdd, Nat.reduceLeDiff, Nat.reduceSub, and_self, and_true, true_and, reduceIte, reduceCtorEq, eq_self, implies_true, forall_const, false_implies, imp_self, decide_true, decide_false, fix_nil, fix_cons, g0, g1c, g3c, t0, t2, t3, t4, g5c]
    exact ⟨_, [], [], D5, by simp, by simp; omega, Nat.le_refl _, by simp⟩
  rintro k T H6 hT ⟨t5, vr, routes, Fr, D6, hk1, hk2, htot, hrs⟩
  simp only [fix_nil, fix_cons, Zq, evO, vbox, wr, Zeq, if_true, if_false, Nat.reduceEqDiff, Nat.reduceAdd, Nat.reduceLeDiff, Nat.reduceSub, and_self, and_true, true_and, reduceIte, reduceCtorEq, eq_self, implies_true, forall_const, false_implies, imp_self, decide_true, decide_false, t0, t2, t3, t4] at hT
  obtain ⟨t0, t2, t3⟩ := hT
  have g6 := D6.g
  by_cases h0 : 0 < k
  rotate_left
  · obtain rfl : k = 0 := by omega
    obtain ⟨a1, a2⟩ := slc_cell ((rSlc rInt).ownrd D6.ou)
    obtain ⟨b1, b2⟩ := slc_cell ((rSlc rRoute).ownrd D6.orr)
    have g6r := (D6.chg.get H.nxt (by omega) (by simp; omega)).trans g0
    simp (maxSteps := 4000000) (disch := omega) only [Zq, evO, vbox, wr, Zeq, if_true, if_false, Nat.reduceEqDiff, Nat.reduceAdd, Nat.reduceLeDiff, Nat.reduceSub, and_self, and_true, true_and, reduceIte, reduceCtorEq, eq_self, implies_true, forall_const, false_implies, imp_self, decide_true, decide_false, fix_nil, fix_cons, g0, g1c, g3c, t0, t2, t3, t4, g5c, t5, g6, g6r, a1, a2, b1, b2]
    have fin : Chg [p] H (H6.set H.nxt [vu, .int .i64 (m : Int), vr]) := ⟨by rw [Zbh]; have := k0.nxt; have := D6.chg.nxt; omega, fun a ha hm => by rw [Zbi, if_neg (by omega), D6.chg.get a (by omega) hm, k0.get a ha]⟩
    have cu : Cur B v code (H6.set H.nxt [vu, .int .i64 (m : Int), vr]) p := cur_ch (G := [H.nxt]) D6.cur (by rw [Zbh]; exact Nat.le_refl _) (fun a ha hm => by rw [Zbi, if_neg (by simpa using hm)]) (fun a ha => by simp at ha; have := c.1.nxt; omega) (by simp; omega)
    refine ⟨fin, cu, vu, vr, under, (m : Int), routes, Fu, Fr, rfl, (rSlc rInt).ownk D6.ou (by rw [Zbh]; exact Nat.le_refl _) (fun a ha => by rw [Zbi, if_neg (by have := D6.fu a ha; omega)]), (rSlc rRoute).ownk D6.orr (by rw [Zbh]; exact Nat.le_refl _) (fun a ha => by rw [Zbi, if_neg (by have := D6.fr a ha; omega)]), fun a ha => ?_, ?_, by omega, ?_, m, rfl⟩
    · rcases List.mem_append.1 ha with h | h
      · have := D6.fu a h; omega
      · have := D6.fr a h; omega
    · simp only [plOk, Bool.and_eq_true, decide_eq_true_eq, allTo_iff, inR_iff]
      refine ⟨by omega, by omega, by omega, fun i hi => ?_, fun i hi => hrs _ ?_⟩
      · have := hun (under.getD i 0) (getD_mem hi)
        omega
      · rw [rt, getD_get _ _ hi]
        exact List.getElem_mem hi
    · rw [plant_tot, leaf_tot]
      omega
  simp (maxSteps := 4000000) (disch := omega) only [Zq, evO, vbox, wr, Zeq, if_true, if_false, Nat.reduceEqDiff, Nat.reduceAdd, Nat.reduceLeDiff, Nat.reduceSub, and_self, and_true, true_and, reduceIte, reduceCtorEq, eq_self, implies_true, forall_const, false_implies, imp_self, decide_true, decide_false, fix_nil, fix_cons, g0, g1c, g3c, t0, t2, t3, t4, g5c, t5, g6]
  generalize hG7 : (H6.push [.slice none 0 0, .slice none 0 0]).set H6.nxt [.slice none 0 0, .slice none 0 0] = H7
  have k7 : Keep H6 H7 := by rw [← hG7]; repeat' (first | exact Keep.refl _ | assumption | refine Keep.push' ?_ | refine Keep.set' ?_ ?_ | refine Keep.moved' ?_ ?_ | omega)
  have g7 : H7.get H6.nxt = some (.own [.slice none 0 0, .slice none 0 0]) := by rw [← hG7, Zbi, if_pos rfl]
  have n7 : H7.nxt = H6.nxt + 1 := by rw [← hG7, Zbh, Zbg]
  have pl6 : p < H6.nxt := D6.cur.2.2.1
  have R7 : RP B v code p H6 H6.nxt H7 (.slice none 0 0) (.slice none 0 0) [] [] [] [] := ⟨k7.chg, D6.cur.chg k7, pl6, Nat.le_refl _, by omega, g7, .inl ⟨rfl, rfl, rfl⟩, .inl ⟨rfl, rfl, rfl⟩, by simp, by simp, by simp, by simp⟩
  clear hG7
  refine G_forF [0, 2, 3, 5, 6] (under.length) (fun i T H8 => T 7 = .int .i64 (i : Int) ∧ ∃ vn ns Fn, RP B v code p H6 H6.nxt H8 vn (.slice none 0 0) ns [] Fn [] ∧ NdsP under.length ns i ∧ ns.length ≤ i) 0 (Nat.zero_le _) ?_ ?_
  · simp (maxSteps := 4000000) (disch := omega) only [Zq, evO, vbox, wr, Zeq, if_true, if_false, Nat.reduceEqDiff, Nat.reduceAdd, Nat.reduceLeDiff, Nat.reduceSub, and_self, and_true, true_and, reduceIte, reduceCtorEq, eq_self, implies_true, forall_const, false_implies, imp_self, decide_true, decide_false, fix_nil, fix_cons, g0, g1c, g3c, t0, t2, t3, t4, g5c, t5, g6, g7]
    exact ⟨_, [], [], R7, ⟨by simp, by simp⟩, by simp⟩
  rintro i T H8 hi hT ⟨t7, vn, ns, Fn, R8, hns, nl⟩
  simp only [fix_nil, fix_cons, Zq, evO, vbox, wr, Zeq, if_true, if_false, Nat.reduceEqDiff, Nat.reduceAdd, Nat.reduceLeDiff, Nat.reduceSub, and_self, and_true, true_and, reduceIte, reduceCtorEq, eq_self, implies_true, forall_const, false_implies, imp_self, decide_true, decide_false, t0, t2, t3, t4, t5] at hT
  obtain ⟨t0, t2, t3, t5, t6⟩ := hT
  have g8 := R8.g
  have D8 := D6.mv R8.chg R8.cur
  have g8q := D8.g
  by_cases hin : i < under.length
  · simp (maxSteps := 4000000) (disch := omega) only [Zq, evO, vbox, wr, Zeq, if_true, if_false, Nat.reduceEqDiff, Nat.reduceAdd, Nat.reduceLeDiff, Nat.reduceSub, and_self, and_true, true_and, reduceIte, reduceCtorEq, eq_self, implies_true, forall_const, false_implies, imp_self, decide_true, decide_false, fix_nil, fix_cons, g0, g1c, g3c, t0, t2, t3, t4, g5c, t5, g6, g7, t6, t7, g8, g8q, lu]
    refine GO_call ((r_spec_l01Once (n := 3) hb hl hc R8.cur (by omega) (by omega)).mono ?_)
    rintro _ H9 ⟨g9c, c9, t, rfl⟩
    have R9 := R8.mv g9c c9
    cases t with
    | false =>
      simp (maxSteps := 4000000) (disch := omega) only [Zq, evO, vbox, wr, Zeq, if_true, if_false, Nat.reduceEqDiff, Nat.reduceAdd, Nat.reduceLeDiff, Nat.reduceSub, and_self, and_true, true_and, reduceIte, reduceCtorEq, eq_self, implies_true, forall_const, false_implies, imp_self, decide_true, decide_false, fix_nil, fix_cons, g0, g1c, g3c, t0, t2, t3, t4, g5c, t5, g6, g7, t6, t7, g8, g8q, g9c]
      exact ⟨hin, vn, ns, Fn, R9, hns.more, by omega⟩
    | true =>
      have g9 := R9.g
      simp (maxSteps := 4000000) (disch := omega) only [Zq, evO, vbox, wr, Zeq, if_true, if_false, Nat.reduceEqDiff, Nat.reduceAdd, Nat.reduceLeDiff, Nat.reduceSub, and_self, and_true, true_and, reduceIte, reduceCtorEq, eq_self, implies_true, forall_const, false_implies, imp_self, decide_true, decide_false, fix_nil, fix_cons, g0, g1c, g3c, t0, t2, t3, t4, g5c, t5, g6, g7, t6, t7, g8, g8q, g9c, g9]
      simp (maxSteps := 4000000) (disch := omega) only [ZD, Zio, Zip, pre_, beq_self_eq_true, Nat.reduceBEq, Zq, evO, vbox, wr, Zeq, if_true, if_false, Nat.reduceEqDiff, Nat.reduceAdd, Nat.reduceLeDiff, Nat.reduceSub, and_self, and_true, true_and, reduceIte, reduceCtorEq, eq_self, implies_true, forall_const, false_implies, imp_self, decide_true, decide_false, fix_nil, fix_cons, g0, g1c, g3c, t0, t2, t3, t4, g5c, t5, g6, g7, t6, t7, g8, g8q, g9c, g9, G_dreg]
      refine GD_call_eq (by (simp (maxSteps := 4000000) (disch := omega) only [Zq, evO, vbox, wr, Zeq, if_true, if_false, Nat.reduceEqDiff, Nat.reduceAdd, Nat.reduceLeDiff, Nat.reduceSub, and_self, and_true, true_and, reduceIte, reduceCtorEq, eq_self, implies_true, forall_const, false_implies, imp_self, decide_true, decide_false, fix_nil, fix_cons, g0, g1c, g3c, t0, t2, t3, t4, g5c, t5, g6, g7, t6, t7, g8, g8q, g9c, g9]) <;> rfl) ((r_spec_l01Below (n := 2) hb hl hc R9.cur (by omega) (by omega)).mono ?_)
      rintro _ H10 ⟨g10c, c10, z, rfl, hz⟩
      have R10 := R9.mv g10c c10
      have g10 := R10.g
      have q10 := R10.q1
      obtain ⟨u, H11, e11, n11, g11, old11, a1, a2, Fn', R11⟩ := R10.need ((i : Int), (z : Int)) (by omega)
      simp (maxSteps := 4000000) (disch := omega) only [ZD, Zio, Zip, pre_, beq_self_eq_true, Nat.reduceBEq, Zq, evO, vbox, wr, Zeq, if_true, if_false, Nat.reduceEqDiff, Nat.reduceAdd, Nat.reduceLeDiff, Nat.reduceSub, and_self, and_true, true_and, reduceIte, reduceCtorEq, eq_self, implies_true, forall_const, false_implies, imp_self, decide_true, decide_false, fix_nil, fix_cons, g0, g1c, g3c, t0, t2, t3, t4, g5c, t5, g6, g7, t6, t7, g8, g8q, g9c, g9, g10c, g10, g11, GD_app, e11, a1, a2]
      first | with_reducible refine And.intro (by repeat' (first | apply And.intro | omega)) ?_ | skip
      exact ⟨hin, u, _, Fn', R11, hns.app hin (by omega), by simp; omega⟩
  obtain rfl : i = under.length := by omega
  simp (maxSteps := 4000000) (disch := omega) only [Zq, evO, vbox, wr, Zeq, if_true, if_false, Nat.reduceEqDiff, Nat.reduceAdd, Nat.reduceLeDiff, Nat.reduceSub, and_self, and_true, true_and, reduceIte, reduceCtorEq, eq_self, implies_true, forall_const, false_implies, imp_self, decide_true, decide_false, fix_nil, fix_cons, g0, g1c, g3c, t0, t2, t3, t4, g5c, t5, g6, g7, t6, t7, g8, g8q, lu]
  refine GO_call ((r_spec_l01Below (n := m) hb hl hc R8.cur (by omega) (by omega)).mono ?_)
  rintro _ H9 ⟨g9c, c9, z4, rfl, hz4⟩
  have R9 := R8.mv g9c c9
  clear D8 g8 g8q R8 g6
  simp (maxSteps := 4000000) (disch := omega) only [Zq, evO, vbox, wr, Zeq, if_true, if_false, Nat.reduceEqDiff, Nat.reduceAdd, Nat.reduceLeDiff, Nat.reduceSub, and_self, and_true, true_and, reduceIte, reduceCtorEq, eq_self, implies_true, forall_const, false_implies, imp_self, decide_true, decide_false, fix_nil, fix_cons, g0, g1c, g3c, t0, t2, t3, t4, g5c, t5, g7, t6, t7, g9c]
  refine G_loopF [0, 2, 3, 5, 6, 8] (3) (fun j T H10 => ∃ i vb bs Fb, T 9 = .int .i64 ((i : Nat) : Int) ∧ i + j = 3 ∧ RP B v code p H6 H6.nxt H10 vn vb ns bs Fn Fb ∧ BksP (m : Int) bs ∧ bs.length ≤ i ∧ (0 < i → 1 ≤ bs.length)) ?_ ?_
  · simp (maxSteps := 4000000) (disch := omega) only [Zq, evO, vbox, wr, Zeq, if_true, if_false, Nat.reduceEqDiff, Nat.reduceAdd, Nat.reduceLeDiff, Nat.reduceSub, and_self, and_true, true_and, reduceIte, reduceCtorEq, eq_self, implies_true, forall_const, false_implies, imp_self, decide_true, decide_false, fix_nil, fix_cons, g0, g1c, g3c, t0, t2, t3, t4, g5c, t5, g7, t6, t7, g9c]
    exact ⟨0, .slice none 0 0, [], [], rfl, rfl, R9, by intro j hj; simp at hj, by simp, by omega⟩
  rintro j T H10 hT ⟨i, vb, bs, Fb, t9, hij, R10, hbk, hbl, hb1⟩
  simp only [fix_nil, fix_cons, Zq, evO, vbox, wr, Zeq, if_true, if_false, Nat.reduceEqDiff, Nat.reduceAdd, Nat.reduceLeDiff, Nat.reduceSub, and_self, and_true, true_and, reduceIte, reduceCtorEq, eq_self, implies_true, forall_const, false_implies, imp_self, decide_true, decide_false, t0, t2, t3, t4, t5, t6, t7] at hT
  obtain ⟨t0, t2, t3, t5, t6, t8⟩ := hT
  have D10 := D6.mv R10.chg R10.cur
  have g10 := R10.g
  have g10q := D10.g
  simp (maxSteps := 4000000) (disch := omega) only [Zq, evO, vbox, wr, Zeq, if_true, if_false, Nat.reduceEqDiff, Nat.reduceAdd, Nat.reduceLeDiff, Nat.reduceSub, and_self, and_true, true_and, reduceIte, reduceCtorEq, eq_self, implies_true, forall_const, false_implies, imp_self, decide_true, decide_false, fix_nil, fix_cons, g0, g1c, g3c, t0, t2, t3, t4, g5c, t5, g7, t6, t7, g9c, t8, t9, g10, g10q]
  refine GO_call ((r_spec_l01Below (n := 3) hb hl hc R10.cur (by omega) (by omega)).mono ?_)
  rintro _ H11 ⟨g11c, c11, z5, rfl, hz5⟩
  have R11 := R10.mv g11c c11
  have D11 := D10.mv g11c c11
  have g11 := R11.g
  have g11q := D11.g
  have q11 := R11.q1
  have q11q := D11.q1
  have hw5 : IntKind.i64.wrap (1 + (z5 : Int)) = ((1 + z5 : Nat) : Int) := by rw [wrap64 (by omega) (by omega)]; omega
  by_cases hiz : i < 1 + z5
  · have hw6 : IntKind.i64.wrap ((z4 : Int) + (i : Int)) = ((z4 + i : Nat) : Int) := by rw [wrap64 (by omega) (by omega)]; omega
    have hrem : abin .rem (.int .i64 ((z4 + i : Nat) : Int)) (.int .i64 (m : Int)) = some (.int .i64 (((z4 + i : Nat) : Int).tmod m)) := abin_rem (by omega)
    have hx := tmod_range (x := ((z4 + i : Nat) : Int)) (k := (m : Int)) (by omega) (by omega)
    generalize ((z4 + i : Nat) : Int).tmod m = x at hrem hx
    simp (maxSteps := 4000000) (disch := omega) only [Zq, evO, vbox, wr, Zeq, if_true, if_false, Nat.reduceEqDiff, Nat.reduceAdd, Nat.reduceLeDiff, Nat.reduceSub, and_self, and_true, true_and, reduceIte, reduceCtorEq, eq_self, implies_true, forall_const, false_implies, imp_self, decide_true, decide_false, fix_nil, fix_cons, g0, g1c, g3c, t0, t2, t3, t4, g5c, t5, g7, t6, t7, g9c, t8, t9, g10, g10q, g11c, g11, g11q, hw5, hw6, hrem]
    refine GO_call ((r_spec_l01Has (x := x) (ints_of ((rSlc rInt).ownrd R11.ob)) (by omega)).mono ?_)
    rintro _ H12 ⟨k12, rfl⟩
    have n12 := k12.nxt
    have g12 := (k12.get (H6.nxt) (by omega)).trans g11
    have g12q := (k12.get (H1.nxt) (by omega)).trans g11q
    cases hh : bs.contains x with
    | true =>
      simp (maxSteps := 4000000) (disch := omega) only [Zq, evO, vbox, wr, Zeq, if_true, if_false, Nat.reduceEqDiff, Nat.reduceAdd, Nat.reduceLeDiff, Nat.reduceSub, and_self, and_true, true_and, reduceIte, reduceCtorEq, eq_self, implies_true, forall_const, false_implies, imp_self, decide_true, decide_false, fix_nil, fix_cons, g0, g1c, g3c, t0, t2, t3, t4, g5c, t5, g7, t6, t7, g9c, t8, t9, g10, g10q, g11c, g11, g11q, g12, g12q, hh]
      exact ⟨j - 1, by omega, i + 1, vb, bs, Fb, rfl, by omega, R11.keep k12, hbk, by omega, fun _ => by
        rcases Nat.eq_zero_or_pos bs.length with h | h
        · have := List.eq_nil_of_length_eq_zero h
          subst this
          simp at hh
        · exact h⟩
    | false =>
      have R12 := R11.keep k12
      simp (maxSteps := 4000000) (disch := omega) only [Zq, evO, vbox, wr, Zeq, if_true, if_false, Nat.reduceEqDiff, Nat.reduceAdd, Nat.reduceLeDiff, Nat.reduceSub, and_self, and_true, true_and, reduceIte, reduceCtorEq, eq_self, implies_true, forall_const, false_implies, imp_self, decide_true, decide_false, fix_nil, fix_cons, g0, g1c, g3c, t0, t2, t3, t4, g5c, t5, g7, t6, t7, g9c, t8, t9, g10, g10q, g11c, g11, g11q, g12, g12q, hh]
      obtain ⟨u, H13, e13, n13, g13, old13, a1, a2, Fb', R13⟩ := R12.block x (by omega)
      simp (maxSteps := 4000000) (disch := omega) only [Zq, evO, vbox, wr, Zeq, if_true, if_false, Nat.reduceEqDiff, Nat.reduceAdd, Nat.reduceLeDiff, Nat.reduceSub, and_self, and_true, true_and, reduceIte, reduceCtorEq, eq_self, implies_true, forall_const, false_implies, imp_self, decide_true, decide_false, fix_nil, fix_cons, g0, g1c, g3c, t0, t2, t3, t4, g5c, t5, g7, t6, t7, g9c, t8, t9, g10, g10q, g11c, g11, g11q, g12, g12q, g13, e13, a1, a2]
      exact ⟨j - 1, by omega, i + 1, u, _, Fb', rfl, by omega, R13, hbk.app (inR_iff.2 (by omega)) hh, by simp; omega, fun _ => by simp⟩
  · simp (maxSteps := 4000000) (disch := omega) only [Zq, evO, vbox, wr, Zeq, if_true, if_false, Nat.reduceEqDiff, Nat.reduceAdd, Nat.reduceLeDiff, Nat.reduceSub, and_self, and_true, true_and, reduceIte, reduceCtorEq, eq_self, implies_true, forall_const, false_implies, imp_self, decide_true, decide_false, fix_nil, fix_cons, g0, g1c, g3c, t0, t2, t3, t4, g5c, t5, g7, t6, t7, g9c, t8, t9, g10, g10q, g11c, g11, g11q, hw5]
    have i1 : 0 < i := by omega
    have hy : rRoute.own H11 [vn, vb] (ns, bs) (Fn ++ Fb) := route_own' R11.on R11.ob
    have nn : (Fn ++ Fb).Nodup := List.nodup_append.2 ⟨R11.nn, R11.nb, fun a ha b hb e => (R11.fn a ha).2.2 (e ▸ hb)⟩
    have lu6 := (rSlc rInt).ownlt D6.ou
    have lr6 := (rSlc rRoute).ownlt D6.orr
    have n06 := D6.chg.nxt
    have q16 := D6.q1
    obtain ⟨u, H12, e12, n12, g12, old12, a1, a2, Fr', D12⟩ := D11.way hy nn (fun a ha => by
      have : H6.nxt ≤ a := by
        rcases List.mem_append.1 ha with h | h
        · exact (R11.fn a h).1
        · exact (R11.fb a h).1
      exact ⟨by omega, by omega, fun h => by have := lu6 a h; omega, fun h => by have := lr6 a h; omega⟩) (by omega)
    have hw : IntKind.i64.wrap ((k : Int) - 1) = ((k - 1 : Nat) : Int) := by rw [wrap64 (by omega) (by omega)]; omega
    simp (maxSteps := 4000000) (disch := omega) only [Zq, evO, vbox, wr, Zeq, if_true, if_false, Nat.reduceEqDiff, Nat.reduceAdd, Nat.reduceLeDiff, Nat.reduceSub, and_self, and_true, true_and, reduceIte, reduceCtorEq, eq_self, implies_true, forall_const, false_implies, imp_self, decide_true, decide_false, fix_nil, fix_cons, g0, g1c, g3c, t0, t2, t3, t4, g5c, t5, g7, t6, t7, g9c, t8, t9, g10, g10q, g11c, g11, g11q, g12, e12, a1, a2, hw]
    refine ⟨k - 1, by omega, rfl, u, _, Fr', D12, by simp; omega, by simp; omega, ?_, ?_⟩
    · have e1 : (rSlc rRoute).tot (routes ++ [(ns, bs)]) = (rSlc rRoute).tot routes + (rRoute.tot (ns, bs) + 1) := by
        simp only [rSlc, List.length_append, List.map_append, List.sum_append, List.map_cons, List.map_nil, List.sum_cons, List.sum_nil, List.length_cons, List.length_nil]
        omega
      rw [e1, route_tot, flat_tot, leaf_tot, List.length_append]
      simp
      omega
    · intro r hr
      rcases List.mem_append.1 hr with h | h
      · exact hrs r h
      · obtain rfl := List.mem_singleton.1 h
        simp only [rtOk, Bool.and_eq_true, allTo_iff, decide_eq_true_eq]
        exact ⟨hns.1, hb1 i1, hbk⟩
end
end Go.Proofs.Ythjphddodooahaa.AX
namespace Go.Proofs.Ythjphddodooahaa.AX
open Go
set_option maxRecDepth 10000
set_option linter.unusedSimpArgs false
set_option linter.unusedVariables false
theorem lkOk_iff {under : List Int} {b : Int} {routes : List Rt} {pos : List Int} {set tk : List Bool} : lkOk under b routes pos set tk = true ↔ plOk under b routes = true ∧ pos.length = under.length ∧ set.length = routes.length ∧ (tk.length : Int) = b ∧ (∀ i, i < pos.length → inR 0 1 (pos.getD i 0) = true) ∧ ∀ a, a < routes.length → set.getD a false = true → (∀ i, i < (rt routes a).1.length → pos.getD (nd (rt routes a).1 i).1.toNat 0 = (nd (rt routes a).1 i).2) ∧ ∀ j, j < a → set.getD j false = true → agNo (rt routes a) (rt routes j) = true := by
  simp only [lkOk, Bool.and_eq_true, decide_eq_true_eq, allTo_iff, rowOk, Bool.or_eq_true, Bool.not_eq_true', posOk, agRow]
  constructor
  · rintro ⟨h1, h2, h3, h4, h5, h6⟩
    refine ⟨h1, h2, h3, h4, h5, fun a ha hs => ?_⟩
    rcases h6 a ha with h | ⟨h, g⟩
    · rw [hs] at h; cases h
    · refine ⟨h, fun j hj hsj => ?_⟩
      rcases g j hj with h | h
      · rw [hsj] at h; cases h
      · exact h
  · rintro ⟨h1, h2, h3, h4, h5, h6⟩
    refine ⟨h1, h2, h3, h4, h5, fun a ha => ?_⟩
    cases hs : set.getD a false with
    | false => exact .inl rfl
    | true =>
      refine .inr ⟨(h6 a ha hs).1, fun j hj => ?_⟩
      cases hsj : set.getD j false with
      | false => exact .inl rfl
      | true => exact .inr ((h6 a ha hs).2 j hj hsj)
theorem setL {α : Type} {l : List α} {i k : Nat} {x d : α} : (l.set k x).getD i d = if i = k ∧ k < l.length then x else l.getD i d := by
  simp only [List.getD_eq_getElem?_getD, List.getElem?_set]
  by_cases h : k = i
  · subst h
    by_cases h2 : k < l.length
    · simp [h2]
    · simp [h2, List.getElem?_eq_none (Nat.le_of_not_lt h2)]
  · simp [h, Ne.symm h]
theorem nd_mem {l : List Nd} {x : Nd} (h : x ∈ l) : ∃ i, i < l.length ∧ nd l i = x := by
  obtain ⟨i, hi, e⟩ := List.getElem_of_mem h
  exact ⟨i, hi, by rw [nd, getD_get _ _ hi]; exact e⟩
theorem mem_nd {l : List Nd} {i : Nat} (h : i < l.length) : nd l i ∈ l := by rw [nd, getD_get _ _ h]; exact List.getElem_mem h
theorem agNo_iff {a b : Rt} : agNo a b = true ↔ (∀ x ∈ a.2, x ∉ b.2) ∧ ∀ x ∈ a.1, ∀ y ∈ b.1, x.1 = y.1 → x.2 = y.2 := by
  simp only [agNo, agOne, ndAg, Bool.and_eq_true, allTo_iff, Bool.not_eq_true', List.contains_eq_mem, decide_eq_false_iff_not, Bool.and_eq_false_iff, Bool.not_eq_false', decide_eq_true_eq]
  constructor
  · rintro ⟨h1, h2⟩
    refine ⟨fun x hx => ?_, fun x hx y hy e => ?_⟩
    · obtain ⟨i, hi, rfl⟩ := List.getElem_of_mem hx
      have := h1 i hi
      rwa [getD_get _ _ hi] at this
    · obtain ⟨i, hi, rfl⟩ := nd_mem hx
      obtain ⟨j, hj, rfl⟩ := nd_mem hy
      rcases h2 i hi j hj with h | h
      · exact absurd e h
      · exact h
  · rintro ⟨h1, h2⟩
    refine ⟨fun i hi => by rw [getD_get _ _ hi]; exact h1 _ (List.getElem_mem hi), fun i hi j hj => ?_⟩
    by_cases e : (nd a.1 i).1 = (nd b.1 j).1
    · exact .inr (h2 _ (mem_nd hi) _ (mem_nd hj) e)
    · exact .inl e
theorem agNo_symm {a b : Rt} (h : agNo a b = true) : agNo b a = true := by
  rw [agNo_iff] at h ⊢
  exact ⟨fun x hx hx2 => h.1 x hx2 hx, fun x hx y hy e => (h.2 y hy x hx e.symm).symm⟩
theorem setN_get {p : Nat} : ∀ (l : List Nd) (pos : List Int), p < pos.length → (∃ x ∈ l, x.1.toNat = p ∧ (setN pos l).getD p 0 = x.2) ∨ (∀ x ∈ l, x.1.toNat ≠ p) ∧ (setN pos l).getD p 0 = pos.getD p 0
  | [], pos, _ => .inr ⟨by simp, rfl⟩
  | y :: l, pos, hp => by
    have e : setN pos (y :: l) = setN (pos.set y.1.toNat y.2) l := rfl
    rw [e]
    rcases setN_get l (pos.set y.1.toNat y.2) (by rw [List.length_set]; exact hp) with ⟨x, hx, e1, e2⟩ | ⟨h1, h2⟩
    · exact .inl ⟨x, List.mem_cons_of_mem _ hx, e1, e2⟩
    · rw [h2, setL]
      by_cases hy : p = y.1.toNat
      · rw [if_pos ⟨hy, by omega⟩]
        exact .inl ⟨y, List.mem_cons_self .., hy.symm, rfl⟩
      · rw [if_neg (fun h => hy h.1)]
        refine .inr ⟨fun x hx => ?_, rfl⟩
        rcases List.mem_cons.1 hx with rfl | hx
        · exact fun h => hy h.symm
        · exact h1 x hx
theorem nd_ok {n : Nat} {b : Int} {r : Rt} (h : rtOk n b r = true) {i : Nat} (hi : i < r.1.length) : inR 0 1 (nd r.1 i).2 = true ∧ (0 < i → (nd r.1 (i - 1)).1 < (nd r.1 i).1) := by
  simp only [rtOk, Bool.and_eq_true, allTo_iff, ndOk, Bool.not_eq_true', Bool.and_eq_false_iff, decide_eq_false_iff_not] at h
  have := h.1 i hi
  exact ⟨this.2.1, fun h0 => by rcases this.2.2 with h | h <;> omega⟩
theorem nd_lt {n : Nat} {b : Int} {r : Rt} (h : rtOk n b r = true) {i : Nat} : ∀ j, i < j → j < r.1.length → (nd r.1 i).1 < (nd r.1 j).1
  | 0, h0, _ => by omega
  | j + 1, h0, hj => by
    have h1 := (nd_ok h hj).2 (by omega)
    rw [Nat.add_sub_cancel] at h1
    by_cases e : i = j
    · subst e; exact h1
    · have := nd_lt (i := i) h j (by omega) (by omega)
      omega
theorem nd_inj {n : Nat} {b : Int} {r : Rt} (h : rtOk n b r = true) {x y : Nd} (hx : x ∈ r.1) (hy : y ∈ r.1) (e : x.1 = y.1) : x = y := by
  obtain ⟨i, hi, rfl⟩ := nd_mem hx
  obtain ⟨j, hj, rfl⟩ := nd_mem hy
  rcases Nat.lt_trichotomy i j with h1 | h1 | h1
  · have := nd_lt h j h1 hj; omega
  · rw [h1]
  · have := nd_lt h i h1 hi; omega
section
variable {under : List Int} {b : Int} {routes : List Rt} {pos : List Int} {set tk : List Bool}
theorem lk_taken (h : lkOk under b routes pos set tk = true) {tk' : List Bool} (e : tk'.length = tk.length) : lkOk under b routes pos set tk' = true := by
  rw [lkOk_iff] at h ⊢
  rw [e]
  exact h
theorem lk_clear (h : lkOk under b routes pos set tk = true) (k : Nat) : lkOk under b routes pos (set.set k false) tk = true := by
  rw [lkOk_iff] at h ⊢
  obtain ⟨h1, h2, h3, h4, h5, h6⟩ := h
  have sub : ∀ a, (set.set k false).getD a false = true → set.getD a false = true := fun a ha => by
    rw [setL] at ha
    split at ha
    · cases ha
    · exact ha
  exact ⟨h1, h2, by rw [List.length_set]; exact h3, h4, h5, fun a ha hs => ⟨(h6 a ha (sub a hs)).1, fun j hj hsj => (h6 a ha (sub a hs)).2 j hj (sub j hsj)⟩⟩
theorem lk_set (h : lkOk under b routes pos set tk = true) {k : Nat} (hk : k < routes.length) (hag : ∀ j, j < routes.length → set.getD j false = true → agNo (rt routes k) (rt routes j) = true) : lkOk under b routes (setN pos (rt routes k).1) (set.set k true) tk = true := by
  rw [lkOk_iff] at h ⊢
  obtain ⟨h1, h2, h3, h4, h5, h6⟩ := h
  obtain ⟨_, _, _, _, _, hrt⟩ := plOk_get h1
  have sub : ∀ a, (set.set k true).getD a false = true → a ≠ k → set.getD a false = true := fun a ha hn => by
    rw [setL, if_neg (fun h => hn h.1)] at ha
    exact ha
  refine ⟨h1, by rw [setN_len]; exact h2, by rw [List.length_set]; exact h3, h4, fun i hi => ?_, fun a ha hs => ⟨fun i hi => ?_, fun j hj hsj => ?_⟩⟩
  · rw [setN_len] at hi
    rcases setN_get (p := i) (rt routes k).1 pos hi with ⟨x, hx, e1, e2⟩ | ⟨_, e2⟩
    · rw [e2]
      obtain ⟨m, hm, rfl⟩ := nd_mem hx
      exact (nd_ok (hrt k hk) hm).1
    · rw [e2]; exact h5 i hi
  · have b1 := rtOk_nd (hrt a ha) hi
    have hp : (nd (rt routes a).1 i).1.toNat < pos.length := by omega
    rcases setN_get (rt routes k).1 pos hp with ⟨x, hx, e1, e2⟩ | ⟨e1, e2⟩
    · rw [e2]
      have b2 : 0 ≤ x.1 := by
        obtain ⟨m, hm, rfl⟩ := nd_mem hx
        exact (rtOk_nd (hrt k hk) hm).1
      have ex : x.1 = (nd (rt routes a).1 i).1 := by omega
      by_cases hak : a = k
      · subst hak
        rw [nd_inj (hrt a ha) hx (mem_nd hi) ex]
      · exact (agNo_iff.1 (hag a ha (sub a hs hak))).2 x hx _ (mem_nd hi) ex
    · by_cases hak : a = k
      · subst hak
        exact absurd rfl (e1 _ (mem_nd hi))
      · rw [e2]
        exact (h6 a ha (sub a hs hak)).1 i hi
  · by_cases hak : a = k
    · subst hak
      exact hag j (by omega) (sub j hsj (by omega))
    · by_cases hjk : j = k
      · subst hjk
        exact agNo_symm (hag a ha (sub a hs hak))
      · exact (h6 a ha (sub a hs hak)).2 j hj (sub j hsj hjk)
end
/-- An op that keeps a locking right, and of its lengths. -/
def Keeps (opf : List Int → Int → List Rt → Lo → Int → Lo × Int) : Prop := ∀ {under : List Int} {b : Int} {routes : List Rt} {L : Lo} {k : Int}, lkOk under b routes L.1 L.2.1 L.2.2 = true → lkOk under b routes (opf under b routes L k).1.1 (opf under b routes L k).1.2.1 (opf under b routes L k).1.2.2 = true
theorem vaR_keeps : Keeps vaR := by
  intro under b routes L k h
  unfold vaR
  split
  · split
    · exact lk_taken h (List.length_set ..)
    · exact h
  · exact h
theorem occR_keeps : Keeps occR := by
  intro under b routes L k h
  unfold occR
  split
  · split
    · exact h
    · split
      · exact h
      · exact lk_taken h (List.length_set ..)
  · exact h
theorem wiR_keeps : Keeps wiR := by
  intro under b routes L k h
  unfold wiR
  split
  · split
    · split
      · exact lk_clear h _
      · exact h
    · exact h
  · exact h
theorem rqR_keeps : Keeps rqR := by
  intro under b routes L k h
  unfold rqR
  split
  · rename_i hk
    split
    · exact h
    · split
      · rename_i hag
        split
        · split
          · have := inR_iff.1 hk
            refine lk_set h (by omega) (fun j hj hs => ?_)
            have := allTo_iff.1 hag j hj
            rw [agRow, hs] at this
            simpa using this
          · exact h
        · exact h
      · exact h
  · exact h
def lkDo (under : List Int) (b : Int) (routes : List Rt) (L : Lo) (o : Int × Int) : Lo × Int :=
  if o.1 = 0 then rqR under b routes L o.2 else if o.1 = 1 then occR under b routes L o.2 else if o.1 = 2 then vaR under b routes L o.2 else if o.1 = 3 then wiR under b routes L o.2 else (L, 1)
theorem lkDo_ok {under : List Int} {b : Int} {routes : List Rt} {L : Lo} {o : Int × Int} (h : lkOk under b routes L.1 L.2.1 L.2.2 = true) : lkOk under b routes (lkDo under b routes L o).1.1 (lkDo under b routes L o).1.2.1 (lkDo under b routes L o).1.2.2 = true := by
  unfold lkDo
  split
  · exact rqR_keeps h
  · split
    · exact occR_keeps h
    · split
      · exact vaR_keeps h
      · split
        · exact wiR_keeps h
        · exact h
def lkStep (under : List Int) (b : Int) (routes : List Rt) (s : Lo × List Int) (o : Int × Int) : Lo × List Int := ((lkDo under b routes s.1 o).1, s.2 ++ [(lkDo under b routes s.1 o).2])
def bareR (under : List Int) (b : Int) (routes : List Rt) : Lo := (List.replicate under.length 0, List.replicate routes.length false, List.replicate b.toNat false)
def lkGo (under : List Int) (b : Int) (routes : List Rt) (ops : List (Int × Int)) : Lo × List Int := ops.foldl (lkStep under b routes) (bareR under b routes, [])
def pkR (p : List Int × Int × List Rt) (ops : List (Int × Int)) : Lo × List Int := if plOk p.1 p.2.1 p.2.2 = true ∧ ops.length ≤ 300 then lkGo p.1 p.2.1 p.2.2 ops else (([], [], []), [])
theorem repl_getD {α : Type} (n i : Nat) (d : α) : (List.replicate n d).getD i d = d := by
  rw [List.getD_eq_getElem?_getD, List.getElem?_replicate]
  split <;> rfl
theorem bareR_ok {under : List Int} {b : Int} {routes : List Rt} (h : plOk under b routes = true) : lkOk under b routes (bareR under b routes).1 (bareR under b routes).2.1 (bareR under b routes).2.2 = true := by
  have := plOk_get h
  rw [lkOk_iff]
  refine ⟨h, List.length_replicate .., List.length_replicate .., by rw [bareR, List.length_replicate]; omega, fun i hi => by rw [bareR, repl_getD]; rfl, fun a ha hs => ?_⟩
  rw [bareR, repl_getD] at hs
  cases hs
theorem take_snocP {α : Type} (l : List α) {i : Nat} (h : i < l.length) : l.take (i + 1) = l.take i ++ [l[i]] := by
  rw [List.take_add_one, List.getElem?_eq_getElem h]; rfl
theorem lkGo_succ {under : List Int} {b : Int} {routes : List Rt} {ops : List (Int × Int)} {i : Nat} (h : i < ops.length) : lkGo under b routes (ops.take (i + 1)) = lkStep under b routes (lkGo under b routes (ops.take i)) ops[i] := by
  unfold lkGo
  rw [take_snocP ops h, List.foldl_append]
  rfl
theorem lkGo_ok {under : List Int} {b : Int} {routes : List Rt} {ops : List (Int × Int)} (h : plOk under b routes = true) : ∀ i, i ≤ ops.length → lkOk under b routes (lkGo under b routes (ops.take i)).1.1 (lkGo under b routes (ops.take i)).1.2.1 (lkGo under b routes (ops.take i)).1.2.2 = true ∧ (lkGo under b routes (ops.take i)).2.length = i
  | 0, _ => ⟨bareR_ok h, rfl⟩
  | i + 1, hi => by
    obtain ⟨h1, h2⟩ := lkGo_ok (ops := ops) h i (by omega)
    rw [lkGo_succ (i := i) (by omega)]
    exact ⟨lkDo_ok h1, by rw [lkStep, List.length_append, h2]; rfl⟩
end Go.Proofs.Ythjphddodooahaa.AX
namespace Go.Proofs.Ythjphddodooahaa.AX
open Go
set_option maxRecDepth 10000
set_option maxHeartbeats 4000000
set_option linter.unusedSimpArgs false
set_option linter.unusedVariables false
-- LockOp
def lockOpC (x : Int × Int) : List Value := [.int .i64 x.1, .int .i64 x.2]
theorem lockOpC_len (x : Int × Int) : (lockOpC x).length = 2 := rfl
def lockOpM (x : Int × Int) (k : Nat) : (Int × Int) × Nat := ((((k + 0 : Nat) : Int), ((k + 1 : Nat) : Int)), k + 2)
abbrev rLockOp : Rep (Int × Int) := flatRep lockOpC 2 lockOpC_len lockOpM
section
variable {H : Heap} {vu vr : Value} {under : List Int} {b : Int} {routes : List Rt}
theorem r_impl_Bare (hu : (rSlc rInt).rd H [vu] under) (hr : (rSlc rRoute).rd H [vr] routes) (tt : rPlant.tot (under, b, routes) ≤ 1048576) (hpl : plOk under b routes = true) : Run Try.prog 12 [.agg #[vu, .int .i64 b, vr]] H fun r H' => Keep H H' ∧ ∃ cs F, r = rLocking.val cs ∧ rLocking.own H' cs (bareR under b routes) F ∧ Fresh H H' F := by
  obtain ⟨b1, b2, u16, r12, _, _⟩ := plOk_get hpl
  obtain ⟨n, rfl⟩ : ∃ n : Nat, b = n := ⟨b.toNat, by omega⟩
  have lr : ∀ H : Heap, vlen H vr = some (.int .i64 routes.length, H) := fun _ => slc_len hr
  have lu : ∀ H : Heap, vlen H vu = some (.int .i64 under.length, H) := fun _ => slc_len hu
  refine Run.intro c12 rfl ?_
  simp (maxSteps := 4000000) (disch := omega) only [Zq, evO, vbox, wr, Zeq, if_true, if_false, Nat.reduceEqDiff, Nat.reduceAdd, Nat.reduceLeDiff, Nat.reduceSub, and_self, and_true, true_and, reduceIte, reduceCtorEq, eq_self, implies_true, forall_const, false_implies, imp_self, decide_true, decide_false, x12]
  generalize hG0 : (H.push [vu, .int .i64 (n : Int), vr]).push [.slice none 0 0, .slice none 0 0, .slice none 0 0] = H0
  have k0 : Keep H H0 := by rw [← hG0]; repeat' (first | exact Keep.refl _ | assumption | refine Keep.push' ?_ | refine Keep.set' ?_ ?_ | refine Keep.moved' ?_ ?_ | omega)
  have g0 : H0.get H.nxt = some (.own [vu, .int .i64 (n : Int), vr]) := by rw [← hG0]; simp (maxSteps := 4000000) (disch := omega) only [Zq, evO, vbox, wr, Zeq, if_true, if_false, Nat.reduceEqDiff, Nat.reduceAdd, Nat.reduceLeDiff, Nat.reduceSub, and_self, and_true, true_and, reduceIte, reduceCtorEq, eq_self, implies_true, forall_const, false_implies, imp_self, decide_true, decide_false]
  have g0r : H0.get (H.nxt + 1) = some (.own [.slice none 0 0, .slice none 0 0, .slice none 0 0]) := by rw [← hG0]; simp (maxSteps := 4000000) (disch := omega) only [Zq, evO, vbox, wr, Zeq, if_true, if_false, Nat.reduceEqDiff, Nat.reduceAdd, Nat.reduceLeDiff, Nat.reduceSub, and_self, and_true, true_and, reduceIte, reduceCtorEq, eq_self, implies_true, forall_const, false_implies, imp_self, decide_true, decide_false]
  have n0 : H0.nxt = H.nxt + 2 := by rw [← hG0]; simp only [Zbg]
  clear hG0
  refine GO_call ((r_impl_PlantOk ((rSlc rInt).rdk hu k0) ((rSlc rRoute).rdk hr k0) tt).mono ?_)
  rintro _ H1 ⟨k1, rfl⟩
  have n1 := k1.nxt
  have g1 := (k1.get (H.nxt) (by omega)).trans g0
  have g1r := (k1.get (H.nxt + 1) (by omega)).trans g0r
  simp (maxSteps := 4000000) (disch := omega) only [Zq, evO, vbox, wr, Zeq, if_true, if_false, Nat.reduceEqDiff, Nat.reduceAdd, Nat.reduceLeDiff, Nat.reduceSub, and_self, and_true, true_and, reduceIte, reduceCtorEq, eq_self, implies_true, forall_const, false_implies, imp_self, decide_true, decide_false, fix_nil, fix_cons, g0, g0r, g1, g1r, hpl]
  have o1 := own_mks (r := rInt) (H := H1) (z := [.int .i64 0]) (x0 := 0) ⟨rfl, rfl⟩ under.length
  generalize hA : H1.push (List.replicate under.length [Value.int .i64 0]).flatten = HA at *
  have kA : Keep H1 HA := by rw [← hA]; exact Keep.push _ _
  have nA : HA.nxt = H1.nxt + 1 := by rw [← hA, Zbg]
  have o2 := own_mks (r := rBool) (H := HA) (z := [.bool false]) (x0 := false) ⟨rfl, rfl⟩ routes.length
  generalize hB : HA.push (List.replicate routes.length [Value.bool false]).flatten = HB at *
  have kB : Keep HA HB := by rw [← hB]; exact Keep.push _ _
  have nB : HB.nxt = HA.nxt + 1 := by rw [← hB, Zbg]
  have o3 := own_mks (r := rBool) (H := HB) (z := [.bool false]) (x0 := false) ⟨rfl, rfl⟩ n
  generalize hC : HB.push (List.replicate n [Value.bool false]).flatten = HC at *
  have kC : Keep HB HC := by rw [← hC]; exact Keep.push _ _
  have nC : HC.nxt = HB.nxt + 1 := by rw [← hC, Zbg]
  have g21 := (kA.get H.nxt (by omega)).trans g1
  have g22 := (kB.get H.nxt (by omega)).trans g21
  have g23 : HC.get (H.nxt + 1) = some (.own [.slice none 0 0, .slice none 0 0, .slice none 0 0]) := by rw [kC.get _ (by omega), kB.get _ (by omega), kA.get _ (by omega)]; exact g1r
  simp (maxSteps := 4000000) (disch := omega) only [ZD, Zio, Zip, pre_, beq_self_eq_true, Nat.reduceBEq, Zq, evO, vbox, wr, Zeq, if_true, if_false, Nat.reduceEqDiff, Nat.reduceAdd, Nat.reduceLeDiff, Nat.reduceSub, and_self, and_true, true_and, reduceIte, reduceCtorEq, eq_self, implies_true, forall_const, false_implies, imp_self, decide_true, decide_false, fix_nil, fix_cons, g0, g0r, g1, g1r, g21, g22, g23, G_dreg, lu, lr, hA, hB, hC]
  first | with_reducible refine And.intro (by repeat' (first | apply And.intro | omega)) ?_ | skip
  have o1' := (rSlc rInt).ownKeep o1 (kB.trans kC)
  have o2' := (rSlc rBool).ownKeep o2 kC
  have o3' := o3
  have e : bareR under (n : Int) routes = (List.replicate under.length 0, List.replicate routes.length false, List.replicate n false) := by rw [bareR, Int.toNat_natCast]
  have hF : ∀ a ∈ [H1.nxt] ++ ([HA.nxt] ++ [HB.nxt]), H1.nxt ≤ a ∧ a < HC.nxt := fun a ha => by
    simp at ha
    omega
  rw [e]
  refine ⟨(k0.trans (k1.trans (kA.trans (kB.trans kC)))).set' (by omega), _, [H1.nxt] ++ ([HA.nxt] ++ [HB.nxt]), rfl, rLocking.ownk (locking_own' o1' o2' o3') (by rw [Zbh]; omega) (fun a ha => ?_), by simp; omega, fun a ha => ?_⟩
  · have := hF a ha
    rw [Zbi, if_neg (by omega)]
  · have := hF a ha
    rw [Zbh]
    omega
theorem repl_succ {α : Type} (n : Nat) (a : α) : List.replicate n a ++ [a] = List.replicate (n + 1) a := List.replicate_succ'.symm
theorem r_spec_Bare (hu : (rSlc rInt).rd H [vu] under) (hr : (rSlc rRoute).rd H [vr] routes) (tt : rPlant.tot (under, b, routes) ≤ 1048576) (hpl : plOk under b routes = true) : Run Try.prog 54 [.agg #[vu, .int .i64 b, vr]] H fun r H' => Keep H H' ∧ ∃ cs F, r = rLocking.val cs ∧ rLocking.own H' cs (bareR under b routes) F ∧ Fresh H H' F := by
  obtain ⟨b1, b2, u16, r12, _, _⟩ := plOk_get hpl
  obtain ⟨n, rfl⟩ : ∃ n : Nat, b = n := ⟨b.toNat, by omega⟩
  have lr : ∀ H : Heap, vlen H vr = some (.int .i64 routes.length, H) := fun _ => slc_len hr
  have lu : ∀ H : Heap, vlen H vu = some (.int .i64 under.length, H) := fun _ => slc_len hu
  refine Run.intro c54 rfl ?_
  simp (maxSteps := 4000000) (disch := omega) only [Zq, evO, vbox, wr, Zeq, if_true, if_false, Nat.reduceEqDiff, Nat.reduceAdd, Nat.reduceLeDiff, Nat.reduceSub, and_self, and_true, true_and, reduceIte, reduceCtorEq, eq_self, implies_true, forall_const, false_implies, imp_self, decide_true, decide_false, x54]
  generalize hG0 : (((H.push [vu, .int .i64 (n : Int), vr]).push [.slice none 0 0, .slice none 0 0, .slice none 0 0]).push [.slice none 0 0, .slice none 0 0, .slice none 0 0]).set (H.nxt + 2) [.slice none 0 0, .slice none 0 0, .slice none 0 0] = H0
  have k0 : Keep H H0 := by rw [← hG0]; repeat' (first | exact Keep.refl _ | assumption | refine Keep.push' ?_ | refine Keep.set' ?_ ?_ | refine Keep.moved' ?_ ?_ | omega)
  have g0 : H0.get H.nxt = some (.own [vu, .int .i64 (n : Int), vr]) := by rw [← hG0]; simp (maxSteps := 4000000) (disch := omega) only [Zq, evO, vbox, wr, Zeq, if_true, if_false, Nat.reduceEqDiff, Nat.reduceAdd, Nat.reduceLeDiff, Nat.reduceSub, and_self, and_true, true_and, reduceIte, reduceCtorEq, eq_self, implies_true, forall_const, false_implies, imp_self, decide_true, decide_false]
  have g0r : H0.get (H.nxt + 1) = some (.own [.slice none 0 0, .slice none 0 0, .slice none 0 0]) := by rw [← hG0]; simp (maxSteps := 4000000) (disch := omega) only [Zq, evO, vbox, wr, Zeq, if_true, if_false, Nat.reduceEqDiff, Nat.reduceAdd, Nat.reduceLeDiff, Nat.reduceSub, and_self, and_true, true_and, reduceIte, reduceCtorEq, eq_self, implies_true, forall_const, false_implies, imp_self, decide_true, decide_false]
  have g0q : H0.get (H.nxt + 2) = some (.own [.slice none 0 0, .slice none 0 0, .slice none 0 0]) := by rw [← hG0]; simp (maxSteps := 4000000) (disch := omega) only [Zq, evO, vbox, wr, Zeq, if_true, if_false, Nat.reduceEqDiff, Nat.reduceAdd, Nat.reduceLeDiff, Nat.reduceSub, and_self, and_true, true_and, reduceIte, reduceCtorEq, eq_self, implies_true, forall_const, false_implies, imp_self, decide_true, decide_false]
  have n0 : H0.nxt = H.nxt + 3 := by rw [← hG0]; simp only [Zbg, Zbh]
  clear hG0
  refine GO_call ((r_spec_PlantOk ((rSlc rInt).rdk hu k0) ((rSlc rRoute).rdk hr k0) tt).mono ?_)
  rintro _ H1 ⟨k1, rfl⟩
  have n1 := k1.nxt
  have g1 := (k1.get (H.nxt) (by omega)).trans g0
  have g1r := (k1.get (H.nxt + 1) (by omega)).trans g0r
  have g1q := (k1.get (H.nxt + 2) (by omega)).trans g0q
  simp (maxSteps := 4000000) (disch := omega) only [Zq, evO, vbox, wr, Zeq, if_true, if_false, Nat.reduceEqDiff, Nat.reduceAdd, Nat.reduceLeDiff, Nat.reduceSub, and_self, and_true, true_and, reduceIte, reduceCtorEq, eq_self, implies_true, forall_const, false_implies, imp_self, decide_true, decide_false, fix_nil, fix_cons, g0, g0r, g0q, g1, g1r, g1q, hpl]
  have k01 := k0.trans k1
  clear k1 k0 g0 g0r g0q
  refine G_forF [1, 2, 3] (under.length) (fun i T H3 => T 4 = .int .i64 (i : Int) ∧ Chg [H.nxt + 2] H1 H3 ∧ ∃ u F1, H3.get (H.nxt + 2) = some (.own [u, .slice none 0 0, .slice none 0 0]) ∧ (rSlc rInt).own H3 [u] (List.replicate i 0) F1 ∧ F1.Nodup ∧ ∀ a ∈ F1, H1.nxt ≤ a ∧ a < H3.nxt) 0 (Nat.zero_le _) ?_ ?_
  · simp (maxSteps := 4000000) (disch := omega) only [Zq, evO, vbox, wr, Zeq, if_true, if_false, Nat.reduceEqDiff, Nat.reduceAdd, Nat.reduceLeDiff, Nat.reduceSub, and_self, and_true, true_and, reduceIte, reduceCtorEq, eq_self, implies_true, forall_const, false_implies, imp_self, decide_true, decide_false, fix_nil, fix_cons, g1, g1r, g1q]
    exact ⟨Chg.refl _ _, _, [], rfl, .inl ⟨rfl, rfl, rfl⟩, by simp, fun a ha => by cases ha⟩
  rintro i T H3 hi hT ⟨t4, cH3, u, F1, g3q, oH3, ndH3, fH3⟩
  simp only [fix_nil, fix_cons, Zq, evO, vbox, wr, Zeq, if_true, if_false, Nat.reduceEqDiff, Nat.reduceAdd, Nat.reduceLeDiff, Nat.reduceSub, and_self, and_true, true_and, reduceIte, reduceCtorEq, eq_self, implies_true, forall_const, false_implies, imp_self, decide_true, decide_false] at hT
  obtain ⟨t1, t2, t3⟩ := hT
  have nH3 := cH3.nxt
  have kkH3 : Keep H H3 := cH3.keep k01 (fun i hi => by simp at hi; omega)
  have g3a := (cH3.get H.nxt (by omega) (by simp)).trans g1
  have g3r := (cH3.get (H.nxt + 1) (by omega) (by simp)).trans g1r
  by_cases hin : i < under.length
  · obtain ⟨x, H5, F5, e5, o5, c5, f5, nd5, _⟩ := own_app (bytes := 8) (r := rInt) (sz := 1) rfl (by omega) oH3 (row := [.int .i64 0]) (y := 0) (G := []) ⟨rfl, rfl⟩ ndH3 (by simp) (by simp) (by rw [List.length_replicate]; omega)
    rw [repl_succ] at o5
    have n5 := c5.nxt
    have old : ∀ a, a < H3.nxt → a ∉ F1 → H5.get a = H3.get a := fun a ha hF => c5.get a ha hF
    have g5 := (old (H.nxt + 2) (by omega) (fun h => by have := fH3 _ h; omega)).trans g3q
    obtain ⟨xa, xb⟩ := slc_cell ((rSlc rInt).ownrd o5)
    simp (maxSteps := 4000000) (disch := omega) only [Zq, evO, vbox, wr, Zeq, if_true, if_false, Nat.reduceEqDiff, Nat.reduceAdd, Nat.reduceLeDiff, Nat.reduceSub, and_self, and_true, true_and, reduceIte, reduceCtorEq, eq_self, implies_true, forall_const, false_implies, imp_self, decide_true, decide_false, fix_nil, fix_cons, g1, g1r, g1q, t1, t2, t3, t4, g3q, g3a, g3r, g5, lu, lr, Zff, e5, xa, xb]
    refine ⟨hin, ⟨by rw [Zbh]; omega, fun a ha hne => ?_⟩, x, F5, rfl, (rSlc rInt).ownk o5 (by rw [Zbh]; omega) (fun a ha => ?_), nd5, fun a ha => ?_⟩
    · rw [Zbi, if_neg (by simpa using hne), old a (by omega) (fun h => by have := fH3 _ h; omega), cH3.get a ha hne]
    · rw [Zbi, if_neg]
      rcases f5 a ha with h | h | h
      · have := fH3 a h; omega
      · simp at h
      · omega
    · rcases f5 a ha with h | h | h
      · have := fH3 a h; omega
      · simp at h
      · omega
  obtain rfl : i = under.length := by omega
  simp (maxSteps := 4000000) (disch := omega) only [Zq, evO, vbox, wr, Zeq, if_true, if_false, Nat.reduceEqDiff, Nat.reduceAdd, Nat.reduceLeDiff, Nat.reduceSub, and_self, and_true, true_and, reduceIte, reduceCtorEq, eq_self, implies_true, forall_const, false_implies, imp_self, decide_true, decide_false, fix_nil, fix_cons, g1, g1r, g1q, t1, t2, t3, t4, g3q, g3a, g3r, lu, lr]
  clear hi hin t4 g1 g1q g1r
  refine G_forF [1, 2, 3] (routes.length) (fun i T H4 => T 5 = .int .i64 (i : Int) ∧ Chg [H.nxt + 2] H3 H4 ∧ ∃ w F2, H4.get (H.nxt + 2) = some (.own [u, w, .slice none 0 0]) ∧ (rSlc rBool).own H4 [w] (List.replicate i false) F2 ∧ F2.Nodup ∧ ∀ a ∈ F2, H3.nxt ≤ a ∧ a < H4.nxt) 0 (Nat.zero_le _) ?_ ?_
  · simp (maxSteps := 4000000) (disch := omega) only [Zq, evO, vbox, wr, Zeq, if_true, if_false, Nat.reduceEqDiff, Nat.reduceAdd, Nat.reduceLeDiff, Nat.reduceSub, and_self, and_true, true_and, reduceIte, reduceCtorEq, eq_self, implies_true, forall_const, false_implies, imp_self, decide_true, decide_false, fix_nil, fix_cons, t1, t2, t3, g3q, g3a, g3r]
    exact ⟨Chg.refl _ _, _, [], rfl, .inl ⟨rfl, rfl, rfl⟩, by simp, fun a ha => by cases ha⟩
  rintro i T H4 hi hT ⟨t5, cH4, w, F2, g4q, oH4, ndH4, fH4⟩
  simp only [fix_nil, fix_cons, Zq, evO, vbox, wr, Zeq, if_true, if_false, Nat.reduceEqDiff, Nat.reduceAdd, Nat.reduceLeDiff, Nat.reduceSub, and_self, and_true, true_and, reduceIte, reduceCtorEq, eq_self, implies_true, forall_const, false_implies, imp_self, decide_true, decide_false, t1, t2, t3] at hT
  obtain ⟨t1, t2, t3⟩ := hT
  have nH4 := cH4.nxt
  have kkH4 : Keep H H4 := cH4.keep kkH3 (fun i hi => by simp at hi; omega)
  have g4a := (cH4.get H.nxt (by omega) (by simp)).trans g3a
  have g4r := (cH4.get (H.nxt + 1) (by omega) (by simp)).trans g3r
  by_cases hin : i < routes.length
  · obtain ⟨x, H5, F5, e5, o5, c5, f5, nd5, _⟩ := own_app (bytes := 1) (r := rBool) (sz := 1) rfl (by omega) oH4 (row := [.bool false]) (y := false) (G := []) ⟨rfl, rfl⟩ ndH4 (by simp) (by simp) (by rw [List.length_replicate]; omega)
    rw [repl_succ] at o5
    have n5 := c5.nxt
    have old : ∀ a, a < H4.nxt → a ∉ F2 → H5.get a = H4.get a := fun a ha hF => c5.get a ha hF
    have g5 := (old (H.nxt + 2) (by omega) (fun h => by have := fH4 _ h; omega)).trans g4q
    obtain ⟨xa, xb⟩ := slc_cell ((rSlc rBool).ownrd o5)
    simp (maxSteps := 4000000) (disch := omega) only [Zq, evO, vbox, wr, Zeq, if_true, if_false, Nat.reduceEqDiff, Nat.reduceAdd, Nat.reduceLeDiff, Nat.reduceSub, and_self, and_true, true_and, reduceIte, reduceCtorEq, eq_self, implies_true, forall_const, false_implies, imp_self, decide_true, decide_false, fix_nil, fix_cons, t1, t2, t3, g3q, g3a, g3r, t5, g4q, g4a, g4r, g5, lu, lr, Zff, e5, xa, xb]
    refine ⟨hin, ⟨by rw [Zbh]; omega, fun a ha hne => ?_⟩, x, F5, rfl, (rSlc rBool).ownk o5 (by rw [Zbh]; omega) (fun a ha => ?_), nd5, fun a ha => ?_⟩
    · rw [Zbi, if_neg (by simpa using hne), old a (by omega) (fun h => by have := fH4 _ h; omega), cH4.get a ha hne]
    · rw [Zbi, if_neg]
      rcases f5 a ha with h | h | h
      · have := fH4 a h; omega
      · simp at h
      · omega
    · rcases f5 a ha with h | h | h
      · have := fH4 a h; omega
      · simp at h
      · omega
  obtain rfl : i = routes.length := by omega
  simp (maxSteps := 4000000) (disch := omega) only [Zq, evO, vbox, wr, Zeq, if_true, if_false, Nat.reduceEqDiff, Nat.reduceAdd, Nat.reduceLeDiff, Nat.reduceSub, and_self, and_true, true_and, reduceIte, reduceCtorEq, eq_self, implies_true, forall_const, false_implies, imp_self, decide_true, decide_false, fix_nil, fix_cons, t1, t2, t3, g3q, g3a, g3r, t5, g4q, g4a, g4r, lu, lr]
  clear hi hin t5 g3q g3a g3r
  refine G_forF [1, 2, 3] (n) (fun i T H6 => T 6 = .int .i64 (i : Int) ∧ Chg [H.nxt + 2] H4 H6 ∧ ∃ z F3, H6.get (H.nxt + 2) = some (.own [u, w, z]) ∧ (rSlc rBool).own H6 [z] (List.replicate i false) F3 ∧ F3.Nodup ∧ ∀ a ∈ F3, H4.nxt ≤ a ∧ a < H6.nxt) 0 (Nat.zero_le _) ?_ ?_
  · simp (maxSteps := 4000000) (disch := omega) only [Zq, evO, vbox, wr, Zeq, if_true, if_false, Nat.reduceEqDiff, Nat.reduceAdd, Nat.reduceLeDiff, Nat.reduceSub, and_self, and_true, true_and, reduceIte, reduceCtorEq, eq_self, implies_true, forall_const, false_implies, imp_self, decide_true, decide_false, fix_nil, fix_cons, t1, t2, t3, g4q, g4a, g4r]
    exact ⟨Chg.refl _ _, _, [], rfl, .inl ⟨rfl, rfl, rfl⟩, by simp, fun a ha => by cases ha⟩
  rintro i T H6 hi hT ⟨t6, cH6, z, F3, g6q, oH6, ndH6, fH6⟩
  simp only [fix_nil, fix_cons, Zq, evO, vbox, wr, Zeq, if_true, if_false, Nat.reduceEqDiff, Nat.reduceAdd, Nat.reduceLeDiff, Nat.reduceSub, and_self, and_true, true_and, reduceIte, reduceCtorEq, eq_self, implies_true, forall_const, false_implies, imp_self, decide_true, decide_false, t1, t2, t3] at hT
  obtain ⟨t1, t2, t3⟩ := hT
  have nH6 := cH6.nxt
  have kkH6 : Keep H H6 := cH6.keep kkH4 (fun i hi => by simp at hi; omega)
  have g6a := (cH6.get H.nxt (by omega) (by simp)).trans g4a
  have g6r := (cH6.get (H.nxt + 1) (by omega) (by simp)).trans g4r
  by_cases hin : i < n
  · obtain ⟨x, H5, F5, e5, o5, c5, f5, nd5, _⟩ := own_app (bytes := 1) (r := rBool) (sz := 1) rfl (by omega) oH6 (row := [.bool false]) (y := false) (G := []) ⟨rfl, rfl⟩ ndH6 (by simp) (by simp) (by rw [List.length_replicate]; omega)
    rw [repl_succ] at o5
    have n5 := c5.nxt
    have old : ∀ a, a < H6.nxt → a ∉ F3 → H5.get a = H6.get a := fun a ha hF => c5.get a ha hF
    have g5 := (old (H.nxt + 2) (by omega) (fun h => by have := fH6 _ h; omega)).trans g6q
    obtain ⟨xa, xb⟩ := slc_cell ((rSlc rBool).ownrd o5)
    simp (maxSteps := 4000000) (disch := omega) only [Zq, evO, vbox, wr, Zeq, if_true, if_false, Nat.reduceEqDiff, Nat.reduceAdd, Nat.reduceLeDiff, Nat.reduceSub, and_self, and_true, true_and, reduceIte, reduceCtorEq, eq_self, implies_true, forall_const, false_implies, imp_self, decide_true, decide_false, fix_nil, fix_cons, t1, t2, t3, g4q, g4a, g4r, t6, g6q, g6a, g6r, g5, lu, lr, Zff, e5, xa, xb]
    refine ⟨hin, ⟨by rw [Zbh]; omega, fun a ha hne => ?_⟩, x, F5, rfl, (rSlc rBool).ownk o5 (by rw [Zbh]; omega) (fun a ha => ?_), nd5, fun a ha => ?_⟩
    · rw [Zbi, if_neg (by simpa using hne), old a (by omega) (fun h => by have := fH6 _ h; omega), cH6.get a ha hne]
    · rw [Zbi, if_neg]
      rcases f5 a ha with h | h | h
      · have := fH6 a h; omega
      · simp at h
      · omega
    · rcases f5 a ha with h | h | h
      · have := fH6 a h; omega
      · simp at h
      · omega
  obtain rfl : i = n := by omega
  have o1 := (rSlc rInt).ownChg ((rSlc rInt).ownChg oH3 cH4 (fun a ha hm => by have := fH3 a ha; simp at hm; omega)) cH6 (fun a ha hm => by have := fH3 a ha; simp at hm; omega)
  have o2 := (rSlc rBool).ownChg oH4 cH6 (fun a ha hm => by have := fH4 a ha; simp at hm; omega)
  obtain ⟨ua, ub⟩ := slc_cell ((rSlc rInt).ownrd o1)
  obtain ⟨wa, wb⟩ := slc_cell ((rSlc rBool).ownrd o2)
  obtain ⟨za, zb⟩ := slc_cell ((rSlc rBool).ownrd oH6)
  simp (maxSteps := 4000000) (disch := omega) only [Zq, evO, vbox, wr, Zeq, if_true, if_false, Nat.reduceEqDiff, Nat.reduceAdd, Nat.reduceLeDiff, Nat.reduceSub, and_self, and_true, true_and, reduceIte, reduceCtorEq, eq_self, implies_true, forall_const, false_implies, imp_self, decide_true, decide_false, fix_nil, fix_cons, t1, t2, t3, g4q, g4a, g4r, t6, g6q, g6a, g6r, lu, lr, ua, ub, wa, wb, za, zb]
  have e : bareR under (i : Int) routes = (List.replicate under.length 0, List.replicate routes.length false, List.replicate i false) := by rw [bareR, Int.toNat_natCast]
  have hF : Fresh H1 H6 (F1 ++ (F2 ++ F3)) := fresh_app (H1 := H3) ⟨ndH3, fH3⟩ (fresh_app (H1 := H4) ⟨ndH4, fH4⟩ ⟨ndH6, fH6⟩ nH4 nH6) nH3 (by omega)
  rw [e]
  refine ⟨kkH6.set' (by omega), [u, w, z], F1 ++ (F2 ++ F3), rfl, ?_, hF.1, fun a ha => ?_⟩
  · refine rLocking.ownk (locking_own' o1 o2 oH6) (by rw [Zbh]; omega) (fun a ha => ?_)
    have := hF.2 a ha
    rw [Zbi, if_neg (by omega)]
  · have := hF.2 a ha
    rw [Zbh]
    omega
end
theorem r_impl_play {P : Nat → Prop} {B H : Heap} {q : Nat} {v w u vu vr : Value} {F0 F1 F2 : List Nat} {under : List Int} {b : Int} {routes : List Rt} {pos : List Int} {set tk : List Bool} {o : Int × Int} (kB : Keep B H) (hP : ∀ a, P a → B.nxt ≤ a) (hu : (rSlc rInt).rd B [vu] under) (hr : (rSlc rRoute).rd B [vr] routes) (tt : rPlant.tot (under, b, routes) ≤ 1048576) (hL : Lk P H q v w u F0 F1 F2 pos set tk) (hok : lkOk under b routes pos set tk = true) :
    Run Try.prog 52 [ptr q 0, .agg #[vu, .int .i64 b, vr], .agg #[.int .i64 o.1, .int .i64 o.2]] H fun x H' => KpP P H H' ∧ Lk P H' q v w u F0 F1 F2 (lkDo under b routes (pos, set, tk) o).1.1 (lkDo under b routes (pos, set, tk) o).1.2.1 (lkDo under b routes (pos, set, tk) o).1.2.2 ∧ x = .int .i64 (lkDo under b routes (pos, set, tk) o).2 := by
  obtain ⟨c, k⟩ := o
  unfold lkDo
  simp only
  by_cases h0 : c = 0
  · subst h0
    rw [if_pos rfl]
    exact play_0 kB hP hu hr tt hL hok
  rw [if_neg h0]
  by_cases h1 : c = 1
  · subst h1
    rw [if_pos rfl]
    exact play_1 kB hP hu hr tt hL hok
  rw [if_neg h1]
  by_cases h2 : c = 2
  · subst h2
    rw [if_pos rfl]
    exact play_2 kB hP hu hr tt hL hok
  rw [if_neg h2]
  by_cases h3 : c = 3
  · subst h3
    rw [if_pos rfl]
    exact play_3 kB hP hu hr tt hL hok
  rw [if_neg h3]
  refine Run.intro c52 rfl ?_
  simp (maxSteps := 4000000) (disch := omega) only [Zq, evO, vbox, wr, Zeq, if_true, if_false, Nat.reduceEqDiff, Nat.reduceAdd, Nat.reduceLeDiff, Nat.reduceSub, and_self, and_true, true_and, reduceIte, reduceCtorEq, eq_self, implies_true, forall_const, false_implies, imp_self, decide_true, decide_false, x52]
  generalize hG0 : (H.push [vu, .int .i64 b, vr]).push [.int .i64 c, .int .i64 k] = H0
  have k0 : Keep H H0 := by rw [← hG0]; repeat' (first | exact Keep.refl _ | assumption | refine Keep.push' ?_ | refine Keep.set' ?_ ?_ | refine Keep.moved' ?_ ?_ | omega)
  exact ⟨KpP.of k0, hL.keep k0⟩
/-- An element of a slice of ops. -/
theorem op_el {H : Heap} {v : Value} {ms : List (Int × Int)} {i : Nat} (h : (rSlc rLockOp).rd H [v] ms) (hi : i < ms.length) : vldN H 2 (adr v i 2 0) = some (.agg #[.int .i64 ms[i].1, .int .i64 ms[i].2], H) ∧ vld1 H (adr v i 2 0) = some (.int .i64 ms[i].1, H) ∧ vld1 H (adr v i 2 1) = some (.int .i64 ms[i].2, H) := by
  obtain ⟨row, h1, _, h2, h3⟩ := slc_el (sz := 2) rfl (by omega) h hi
  have e : row = lockOpC ms[i] := h1
  rw [h2, e]
  rw [e] at h3
  exact ⟨rfl, h3 0 _ rfl, h3 1 _ rfl⟩
theorem bad_own (H : Heap) : rLocking.own H [.slice none 0 0, .slice none 0 0, .slice none 0 0] ([], [], []) ([] ++ ([] ++ [])) := locking_own' (.inl ⟨rfl, rfl, rfl⟩) (.inl ⟨rfl, rfl, rfl⟩) (.inl ⟨rfl, rfl, rfl⟩)
theorem r_impl_PlayLock {H : Heap} {vu vr w : Value} {under : List Int} {b : Int} {routes : List Rt} {ops : List (Int × Int)} (hu : (rSlc rInt).rd H [vu] under) (hr : (rSlc rRoute).rd H [vr] routes) (h3 : (rSlc rLockOp).rd H [w] ops) (tt : rPlant.tot (under, b, routes) ≤ 1048576) (hl : ops.length ≤ 1048576) :
    Run Try.prog 20 [.agg #[vu, .int .i64 b, vr], w] H fun r H' => Keep H H' ∧ ∃ cs F cs1 F1, r = .tuple #[rLocking.val cs, (rSlc rInt).val cs1] ∧ rLocking.own H' cs (pkR (under, b, routes) ops).1 F ∧ Fresh H H' F ∧ (rSlc rInt).own H' cs1 (pkR (under, b, routes) ops).2 F1 ∧ Fresh H H' F1 ∧ ∀ i ∈ F, i ∉ F1 := by
  have lw : ∀ H : Heap, vlen H w = some (.int .i64 ops.length, H) := fun _ => slc_len h3
  refine Run.intro c20 rfl ?_
  simp (maxSteps := 4000000) (disch := omega) only [Zq, evO, vbox, wr, Zeq, if_true, if_false, Nat.reduceEqDiff, Nat.reduceAdd, Nat.reduceLeDiff, Nat.reduceSub, and_self, and_true, true_and, reduceIte, reduceCtorEq, eq_self, implies_true, forall_const, false_implies, imp_self, decide_true, decide_false, x20]
  generalize hG0 : (H.push [vu, .int .i64 b, vr]).push [.slice none 0 0, .slice none 0 0, .slice none 0 0] = H0
  have k0 : Keep H H0 := by rw [← hG0]; repeat' (first | exact Keep.refl _ | assumption | refine Keep.push' ?_ | refine Keep.set' ?_ ?_ | refine Keep.moved' ?_ ?_ | omega)
  have g0 : H0.get H.nxt = some (.own [vu, .int .i64 b, vr]) := by rw [← hG0]; simp (maxSteps := 4000000) (disch := omega) only [Zq, evO, vbox, wr, Zeq, if_true, if_false, Nat.reduceEqDiff, Nat.reduceAdd, Nat.reduceLeDiff, Nat.reduceSub, and_self, and_true, true_and, reduceIte, reduceCtorEq, eq_self, implies_true, forall_const, false_implies, imp_self, decide_true, decide_false]
  have g0r : H0.get (H.nxt + 1) = some (.own [.slice none 0 0, .slice none 0 0, .slice none 0 0]) := by rw [← hG0]; simp (maxSteps := 4000000) (disch := omega) only [Zq, evO, vbox, wr, Zeq, if_true, if_false, Nat.reduceEqDiff, Nat.reduceAdd, Nat.reduceLeDiff, Nat.reduceSub, and_self, and_true, true_and, reduceIte, reduceCtorEq, eq_self, implies_true, forall_const, false_implies, imp_self, decide_true, decide_false]
  have n0 : H0.nxt = H.nxt + 2 := by rw [← hG0]; simp only [Zbg]
  clear hG0
  refine GO_call ((r_impl_PlantOk ((rSlc rInt).rdk hu k0) ((rSlc rRoute).rdk hr k0) tt).mono ?_)
  rintro _ H1 ⟨k1, rfl⟩
  have n1 := k1.nxt
  have g1 := (k1.get (H.nxt) (by omega)).trans g0
  have g1r := (k1.get (H.nxt + 1) (by omega)).trans g0r
  have k01 := k0.trans k1
  have bad : pkR (under, b, routes) ops = (([], [], []), []) → Keep H (H1.set (H.nxt + 1) [.slice none 0 0, .slice none 0 0, .slice none 0 0]) ∧ ∃ cs F cs1 F1, Value.tuple #[.agg #[.slice none 0 0, .slice none 0 0, .slice none 0 0], .slice none 0 0] = .tuple #[rLocking.val cs, (rSlc rInt).val cs1] ∧ rLocking.own (H1.set (H.nxt + 1) [.slice none 0 0, .slice none 0 0, .slice none 0 0]) cs (pkR (under, b, routes) ops).1 F ∧ Fresh H (H1.set (H.nxt + 1) [.slice none 0 0, .slice none 0 0, .slice none 0 0]) F ∧ (rSlc rInt).own (H1.set (H.nxt + 1) [.slice none 0 0, .slice none 0 0, .slice none 0 0]) cs1 (pkR (under, b, routes) ops).2 F1 ∧ Fresh H (H1.set (H.nxt + 1) [.slice none 0 0, .slice none 0 0, .slice none 0 0]) F1 ∧ ∀ i ∈ F, i ∉ F1 := fun hb => by
    rw [hb]
    exact ⟨k01.set' (by omega), _, _, [.slice none 0 0], [], rfl, bad_own _, ⟨by simp, by simp⟩, .inl ⟨rfl, rfl, rfl⟩, ⟨by simp, by simp⟩, by simp⟩
  by_cases hy : plOk under b routes = true
  rotate_left
  · have hy' : plOk under b routes = false := by simpa using hy
    have hfin := bad (by rw [pkR, if_neg (fun h => hy h.1)])
    simp (maxSteps := 4000000) (disch := omega) only [Zq, evO, vbox, wr, Zeq, if_true, if_false, Nat.reduceEqDiff, Nat.reduceAdd, Nat.reduceLeDiff, Nat.reduceSub, and_self, and_true, true_and, reduceIte, reduceCtorEq, eq_self, implies_true, forall_const, false_implies, imp_self, decide_true, decide_false, fix_nil, fix_cons, g0, g0r, g1, g1r, hy']
    exact hfin
  by_cases h300 : ops.length ≤ 300
  rotate_left
  · have hfin := bad (by rw [pkR, if_neg (fun h => h300 h.2)])
    simp (maxSteps := 4000000) (disch := omega) only [Zq, evO, vbox, wr, Zeq, if_true, if_false, Nat.reduceEqDiff, Nat.reduceAdd, Nat.reduceLeDiff, Nat.reduceSub, and_self, and_true, true_and, reduceIte, reduceCtorEq, eq_self, implies_true, forall_const, false_implies, imp_self, decide_true, decide_false, fix_nil, fix_cons, g0, g0r, g1, g1r, hy, lw]
    exact hfin
  clear bad
  have hpl : pkR (under, b, routes) ops = lkGo under b routes ops := by rw [pkR, if_pos ⟨hy, h300⟩]
  simp (maxSteps := 4000000) (disch := omega) only [Zq, evO, vbox, wr, Zeq, if_true, if_false, Nat.reduceEqDiff, Nat.reduceAdd, Nat.reduceLeDiff, Nat.reduceSub, and_self, and_true, true_and, reduceIte, reduceCtorEq, eq_self, implies_true, forall_const, false_implies, imp_self, decide_true, decide_false, fix_nil, fix_cons, g0, g0r, g1, g1r, hy, lw]
  refine GO_call ((r_impl_Bare ((rSlc rInt).rdk hu k01) ((rSlc rRoute).rdk hr k01) tt hy).mono ?_)
  rintro _ H2 ⟨k2, cs, F, rfl, o2, fr⟩
  obtain ⟨v1, w1, u1, rfl, _⟩ := locking_rd (x0 := (bareR under b routes).1) (x1 := (bareR under b routes).2.1) (x2 := (bareR under b routes).2.2) (rLocking.ownrd o2)
  have n2 := k2.nxt
  have g2 := (k2.get H.nxt (by omega)).trans g1
  have g2r := (k2.get (H.nxt + 1) (by omega)).trans g1r
  simp only [locking_val]
  simp (maxSteps := 4000000) (disch := omega) only [Zq, evO, vbox, wr, Zeq, if_true, if_false, Nat.reduceEqDiff, Nat.reduceAdd, Nat.reduceLeDiff, Nat.reduceSub, and_self, and_true, true_and, reduceIte, reduceCtorEq, eq_self, implies_true, forall_const, false_implies, imp_self, decide_true, decide_false, fix_nil, fix_cons, g0, g0r, g1, g1r, g2, g2r, lw]
  generalize hG3 : (H2.push [.slice none 0 0, .slice none 0 0, .slice none 0 0]).set H2.nxt [v1, w1, u1] = H3
  have k3 : Keep H2 H3 := by rw [← hG3]; repeat' (first | exact Keep.refl _ | assumption | refine Keep.push' ?_ | refine Keep.set' ?_ ?_ | refine Keep.moved' ?_ ?_ | omega)
  have g3 : H3.get H2.nxt = some (.own [v1, w1, u1]) := by rw [← hG3, Zbi, if_pos rfl]
  have n3 : H3.nxt = H2.nxt + 1 := by rw [← hG3, Zbh, Zbg]
  obtain ⟨F0, F1, F2, L3⟩ := own_lk o2 fr n2 k3 (by omega) g3
  have g3a := (k3.get H.nxt (by omega)).trans g2
  have g3r := (k3.get (H.nxt + 1) (by omega)).trans g2r
  have k13 := k2.trans k3
  have k03 := k01.trans k13
  clear hG3 fr o2 g0 g0r g1 g1r g2 g2r
  generalize hG4 : H3.push (List.replicate ops.length [Value.int .i64 0]).flatten = H4
  have k4 : Keep H3 H4 := by rw [← hG4]; exact Keep.push _ _
  have n4 : H4.nxt = H3.nxt + 1 := by rw [← hG4, Zbg]
  obtain ⟨cv, hcv⟩ : ∃ cv, cv = Value.slice (some ⟨H3.nxt, 0, none⟩) ops.length 1 := ⟨_, rfl⟩
  have oc4 : NewI H3 H4 cv (List.replicate ops.length 0) := ⟨H3.nxt, Nat.le_refl _, by omega, by rw [hcv, List.length_replicate], by rw [← hG4, push_get', if_pos rfl, fcZ]; congr 2; induction ops.length with | zero => rfl | succ n ih => simp [List.replicate_succ, ih]⟩
  have e3 : H2.nxt + 1 = H3.nxt := by omega
  rw [e3, ← hcv]
  have g4a := (k4.get H.nxt (by omega)).trans g3a
  have g4r := (k4.get (H.nxt + 1) (by omega)).trans g3r
  have k14 := k13.trans k4
  have k04 := k03.trans k4
  have L4 : Lk (fun a => H1.nxt ≤ a ∧ a ≠ H3.nxt) H4 H2.nxt v1 w1 u1 F0 F1 F2 (bareR under b routes).1 (bareR under b routes).2.1 (bareR under b routes).2.2 := by
    have LL := L3.keep k4
    have lt := rLocking.ownlt (locking_own' L3.o0 L3.o1 L3.o2)
    exact ⟨⟨L3.hq, by have := L3.lt; omega⟩, LL.lt, LL.g, LL.o0, LL.o1, LL.o2, LL.nd, fun a ha => ⟨⟨(L3.pf a ha).1, by have := lt a ha; omega⟩, (L3.pf a ha).2⟩⟩
  clear hG4 g3a g3r L3
  refine G_forF [2, 4, 6, 7, 24, 25] (ops.length) (fun i T H5 => T 26 = .int .i64 (i : Int) ∧ (H4.nxt ≤ H5.nxt ∧ ∀ a, a < H1.nxt → H5.get a = H4.get a) ∧ Lk (fun a => H1.nxt ≤ a ∧ a ≠ H3.nxt) H5 H2.nxt v1 w1 u1 F0 F1 F2 (lkGo under b routes (ops.take i)).1.1 (lkGo under b routes (ops.take i)).1.2.1 (lkGo under b routes (ops.take i)).1.2.2 ∧ blk cv = H3.nxt ∧ NewI H3 H5 cv ((lkGo under b routes (ops.take i)).2 ++ List.replicate (ops.length - i) 0)) 0 (Nat.zero_le _) ?_ ?_
  · simp (maxSteps := 4000000) (disch := omega) only [Zq, evO, vbox, wr, Zeq, if_true, if_false, Nat.reduceEqDiff, Nat.reduceAdd, Nat.reduceLeDiff, Nat.reduceSub, and_self, and_true, true_and, reduceIte, reduceCtorEq, eq_self, implies_true, forall_const, false_implies, imp_self, decide_true, decide_false, fix_nil, fix_cons, g3, g4a, g4r]
    exact ⟨L4, by rw [hcv]; rfl, by simpa [lkGo] using oc4⟩
  rintro i T H5 hi hT ⟨t26, ⟨n5, kp5⟩, L5, hbc, oc5⟩
  simp only [fix_nil, fix_cons, Zq, evO, vbox, wr, Zeq, if_true, if_false, Nat.reduceEqDiff, Nat.reduceAdd, Nat.reduceLeDiff, Nat.reduceSub, and_self, and_true, true_and, reduceIte, reduceCtorEq, eq_self, implies_true, forall_const, false_implies, imp_self, decide_true, decide_false] at hT
  obtain ⟨t2, t4, t6, t7, t24, t25⟩ := hT
  have k15 : Keep H1 H5 := ⟨by omega, fun a ha => by rw [kp5 a ha, k14.get a ha]⟩
  have k05 : Keep H H5 := k01.trans k15
  have g5a := (kp5 H.nxt (by omega)).trans g4a
  have g5r := (kp5 (H.nxt + 1) (by omega)).trans g4r
  have g5q := L5.g
  obtain ⟨okI, lenC⟩ := lkGo_ok (ops := ops) hy i hi
  by_cases hin : i < ops.length
  · have eu := (op_el ((rSlc rLockOp).rdk h3 k05) hin).1
    simp (maxSteps := 4000000) (disch := omega) only [Zq, evO, vbox, wr, Zeq, if_true, if_false, Nat.reduceEqDiff, Nat.reduceAdd, Nat.reduceLeDiff, Nat.reduceSub, and_self, and_true, true_and, reduceIte, reduceCtorEq, eq_self, implies_true, forall_const, false_implies, imp_self, decide_true, decide_false, fix_nil, fix_cons, g3, g4a, g4r, t2, t4, t6, t7, t24, t25, t26, g5a, g5r, g5q, lw, slc_idx (r := rLockOp) (sz := 2) rfl h3 hin, eu]
    generalize hG6 : (H5.push [.int .i64 0, .int .i64 0]).set H5.nxt [.int .i64 ops[i].1, .int .i64 ops[i].2] = H6
    have k6 : Keep H5 H6 := by rw [← hG6]; repeat' (first | exact Keep.refl _ | assumption | refine Keep.push' ?_ | refine Keep.set' ?_ ?_ | refine Keep.moved' ?_ ?_ | omega)
    have g6 : H6.get H5.nxt = some (.own [.int .i64 ops[i].1, .int .i64 ops[i].2]) := by rw [← hG6, Zbi, if_pos rfl]
    have n6 : H6.nxt = H5.nxt + 1 := by rw [← hG6, Zbh, Zbg]
    have g6a := (k6.get H.nxt (by omega)).trans g5a
    have L6 := L5.keep k6
    refine GO_call_eq (by simp (maxSteps := 4000000) (disch := omega) only [Zq, evO, vbox, wr, Zeq, if_true, if_false, Nat.reduceEqDiff, Nat.reduceAdd, Nat.reduceLeDiff, Nat.reduceSub, and_self, and_true, true_and, reduceIte, reduceCtorEq, eq_self, implies_true, forall_const, false_implies, imp_self, decide_true, decide_false, fix_nil, fix_cons, g3, g4a, g4r, t2, t4, t6, t7, t24, t25, t26, g5a, g5r, g5q, g6, g6a]) ((r_impl_play (B := H1) (o := ops[i]) (k15.trans k6) (fun a ha => ha.1) ((rSlc rInt).rdk hu k01) ((rSlc rRoute).rdk hr k01) tt L6 okI).mono ?_)
    rintro _ H7 ⟨k7, L7, rfl⟩
    have n7 := k7.nxt
    have oc7 : NewI H3 H7 cv ((lkGo under b routes (ops.take i)).2 ++ List.replicate (ops.length - i) 0) := by
      obtain ⟨p, p1, p2, p3, p4⟩ := oc5
      have hp : p = H3.nxt := by rw [p3] at hbc; exact hbc
      refine ⟨p, p1, by omega, p3, ?_⟩
      rw [k7.get p (by omega) (fun hh => hh.2 hp), k6.get p p2, p4]
    have hll : i < ((lkGo under b routes (ops.take i)).2 ++ List.replicate (ops.length - i) (0 : Int)).length := by rw [List.length_append, List.length_replicate]; omega
    obtain ⟨c, hc⟩ : ∃ c, c = (lkDo under b routes (lkGo under b routes (ops.take i)).1 ops[i]).2 := ⟨_, rfl⟩
    have hc' : (lkDo under b routes ((lkGo under b routes (ops.take i)).1.1, (lkGo under b routes (ops.take i)).1.2.1, (lkGo under b routes (ops.take i)).1.2.2) ops[i]).2 = c := hc.symm
    rw [hc']
    obtain ⟨H8, e8, o8, k8, n8, g8⟩ := NewF.st (x := .int .i64 c) (y := c) (fZ_len .i64) oc7 rfl rfl hll
    have hset : ((lkGo under b routes (ops.take i)).2 ++ List.replicate (ops.length - i) (0 : Int)).set i c = (lkGo under b routes (ops.take (i + 1))).2 ++ List.replicate (ops.length - (i + 1)) 0 := by
      rw [lkGo_succ hin, lkStep, hc]
      have e : ops.length - i = (ops.length - (i + 1)) + 1 := by omega
      rw [e, List.replicate_succ, List.set_append_right _ _ (by omega), lenC, Nat.sub_self, List.set_cons_zero, List.append_assoc]
      rfl
    rw [hset] at o8
    have ixc : ∀ H0 : Heap, vidx H0 1 cv (.int .i64 (i : Int)) = some (adr cv i 1 0, H0) := fun H0 => by
      have hs := oc7.sl (fZ_len .i64)
      exact hs.idx hll
    have only : ∀ a, a ≠ H3.nxt → H8.get a = H7.get a := fun a ha => by
      obtain ⟨p, p1, p2, p3, p4⟩ := oc7
      have hp : p = H3.nxt := by rw [p3] at hbc; exact hbc
      have hh := e8
      rw [p3] at hh
      simp only [adr, Zcq, p4] at hh
      rw [show 0 + i * 1 + 0 = i * 1 by omega, stO_elem (fZ_len .i64) rfl (y := c) rfl hll] at hh
      simp only [Option.some.injEq, Prod.mk.injEq, true_and] at hh
      rw [← hh, Zbi, if_neg (by omega)]
    have L8 : Lk (fun a => H1.nxt ≤ a ∧ a ≠ H3.nxt) H8 H2.nxt v1 w1 u1 F0 F1 F2 (lkGo under b routes (ops.take (i + 1))).1.1 (lkGo under b routes (ops.take (i + 1))).1.2.1 (lkGo under b routes (ops.take (i + 1))).1.2.2 := by
      rw [lkGo_succ hin, lkStep]
      exact ⟨L7.hq, by have := L7.lt; omega, (only _ L7.hq.2).trans L7.g, (rSlc rInt).ownk L7.o0 (by omega) (fun a ha => only a (L7.m0 ha).1.1.2), (rSlc rBool).ownk L7.o1 (by omega) (fun a ha => only a (L7.m1 ha).1.1.2), (rSlc rBool).ownk L7.o2 (by omega) (fun a ha => only a (L7.m2 ha).1.1.2), L7.nd, L7.pf⟩
    simp (maxSteps := 4000000) (disch := omega) only [Zq, evO, vbox, wr, Zeq, if_true, if_false, Nat.reduceEqDiff, Nat.reduceAdd, Nat.reduceLeDiff, Nat.reduceSub, and_self, and_true, true_and, reduceIte, reduceCtorEq, eq_self, implies_true, forall_const, false_implies, imp_self, decide_true, decide_false, fix_nil, fix_cons, g3, g4a, g4r, t2, t4, t6, t7, t24, t25, t26, g5a, g5r, g5q, g6, g6a, g8, ixc, e8]
    refine ⟨hin, ⟨by omega, fun a ha => ?_⟩, L8, hbc, o8⟩
    rw [only a (by omega), k7.get a (by omega) (fun hh => by have : H1.nxt ≤ a := hh.1; omega), k6.get a (by omega), kp5 a ha]
  obtain rfl : i = ops.length := by omega
  rw [List.take_length] at L5 oc5 lenC okI
  rw [Nat.sub_self, List.replicate_zero, List.append_nil] at oc5
  obtain ⟨Fc, occ, hFc⟩ : ∃ Fc, (rSlc rInt).own H5 [cv] (lkGo under b routes ops).2 Fc ∧ Fc = [H3.nxt] := by
    obtain ⟨p, p1, p2, p3, p4⟩ := oc5
    have hp : p = H3.nxt := by rw [p3] at hbc; exact hbc
    rw [fcZ] at p4
    refine ⟨[p], ?_, by rw [hp]⟩
    rw [p3]
    exact leaf_own0 p2 p4
  subst hFc
  have lt := rLocking.ownlt (locking_own' L5.o0 L5.o1 L5.o2)
  have hnt : noTup cv = true := by rw [hcv]; rfl
  simp (maxSteps := 4000000) (disch := omega) only [Zq, evO, vbox, wr, Zeq, if_true, if_false, Nat.reduceEqDiff, Nat.reduceAdd, Nat.reduceLeDiff, Nat.reduceSub, and_self, and_true, true_and, reduceIte, reduceCtorEq, eq_self, implies_true, forall_const, false_implies, imp_self, decide_true, decide_false, fix_nil, fix_cons, g3, g4a, g4r, t2, t4, t6, t7, t24, t25, t26, g5a, g5r, g5q, lw, hnt]
  rw [hpl]
  refine ⟨k05.set' (by omega), [v1, w1, u1], F0 ++ (F1 ++ F2), [cv], [H3.nxt], rfl, ?_, ⟨L5.nd, fun a ha => ?_⟩, ?_, ⟨by simp, fun a ha => ?_⟩, fun a ha => ?_⟩
  · refine rLocking.ownk (a := (lkGo under b routes ops).1) (locking_own' L5.o0 L5.o1 L5.o2) (by rw [Zbh]; omega) (fun a ha => ?_)
    have : H1.nxt ≤ a := (L5.pf a ha).1.1
    rw [Zbi, if_neg (by omega)]
  · have : H1.nxt ≤ a := (L5.pf a ha).1.1
    have := lt a ha
    rw [Zbh]
    omega
  · refine (rSlc rInt).ownk occ (by rw [Zbh]; omega) (fun a ha => ?_)
    simp at ha
    subst ha
    rw [Zbi, if_neg (by omega)]
  · simp at ha
    subst ha
    rw [Zbh]
    omega
  · simp
    exact (L5.pf a ha).1.2
end Go.Proofs.Ythjphddodooahaa.AX
namespace Go.Proofs.Ythjphddodooahaa.AX
open Go
set_option maxRecDepth 10000
set_option maxHeartbeats 4000000
set_option linter.unusedSimpArgs false
set_option linter.unusedVariables false
section
variable {C : CallRel} {ks : List Fr} {Q : XE → Tm → Heap → Prop} {T : Tm} {H : Heap}
/-- Ways that meet behind a block. -/
theorem kont_cutB {I : Tm → Heap → Prop} {rest : X} {id : Nat} (h2 : ∀ T' H', I T' H' → G C rest ks Q T' H') : ∀ (e : XE) (T : Tm) (H : Heap), kont C Q (.blk id :: .inv I :: ks) e T H → kont C Q (.blk id :: .seq rest :: ks) e T H := by
  intro e T H h
  cases e with
  | nrm => exact h2 _ _ h
  | ex i =>
    have h' : GX C (.ex i) (.blk id :: .inv I :: ks) Q T H := h
    show GX C (.ex i) (.blk id :: .seq rest :: ks) Q T H
    rw [Zap] at h' ⊢
    split
    · rename_i hi
      rw [if_pos hi] at h'
      exact h2 _ _ h'
    · rename_i hi
      rw [if_neg hi] at h'
      exact h'
  | rt => exact h
theorem G_cutB {a rest : X} {id : Nat} (I : Tm → Heap → Prop) (h1 : G C a (.blk id :: .inv I :: ks) Q T H) (h2 : ∀ T' H', I T' H' → G C rest ks Q T' H') : G C a (.blk id :: .seq rest :: ks) Q T H :=
  W.imp (fun _ _ _ _ _ h => h) a (kont_cutB h2) h1
theorem cK_cutB {v : Value} {a b rest : X} {id : Nat} (I : Tm → Heap → Prop) (h1 : cK C v a b (.blk id :: .inv I :: ks) Q T H) (h2 : ∀ T' H', I T' H' → G C rest ks Q T' H') : cK C v a b (.blk id :: .seq rest :: ks) Q T H := by
  cases v with
  | bool t =>
    cases t with
    | true => rw [Zah] at h1 ⊢; exact G_cutB I h1 h2
    | false => rw [Zai] at h1 ⊢; exact G_cutB I h1 h2
  | _ => exact h1.elim
end
theorem lk_small {under : List Int} {b : Int} {routes : List Rt} {L : Lo} (h : lkOk under b routes L.1 L.2.1 L.2.2 = true) : rLocking.tot L ≤ 100 := by
  obtain ⟨hpl, l1, l2, l3⟩ := lkOk_get h
  obtain ⟨b1, b2, u16, r12, _, _⟩ := plOk_get hpl
  obtain ⟨p, s, t⟩ := L
  rw [locking_tot, leaf_tot, leaf_tot, leaf_tot]
  simp only at l1 l2 l3
  omega
theorem r_spec_PlayLock {H : Heap} {vu vr w : Value} {under : List Int} {b : Int} {routes : List Rt} {ops : List (Int × Int)} (hu : (rSlc rInt).rd H [vu] under) (hr : (rSlc rRoute).rd H [vr] routes) (h3 : (rSlc rLockOp).rd H [w] ops) (tt : rPlant.tot (under, b, routes) ≤ 1048576) (hl : ops.length ≤ 1048576) :
    Run Try.prog 22 [.agg #[vu, .int .i64 b, vr], w] H fun r H' => Keep H H' ∧ ∃ cs F cs1 F1, r = .tuple #[rLocking.val cs, (rSlc rInt).val cs1] ∧ rLocking.own H' cs (pkR (under, b, routes) ops).1 F ∧ Fresh H H' F ∧ (rSlc rInt).own H' cs1 (pkR (under, b, routes) ops).2 F1 ∧ Fresh H H' F1 ∧ ∀ i ∈ F, i ∉ F1 := by
  have lw : ∀ H : Heap, vlen H w = some (.int .i64 ops.length, H) := fun _ => slc_len h3
  refine Run.intro c22 rfl ?_
  simp (maxSteps := 4000000) (disch := omega) only [Zq, evO, vbox, wr, Zeq, if_true, if_false, Nat.reduceEqDiff, Nat.reduceAdd, Nat.reduceLeDiff, Nat.reduceSub, and_self, and_true, true_and, reduceIte, reduceCtorEq, eq_self, implies_true, forall_const, false_implies, imp_self, decide_true, decide_false, x22]
  generalize hG0 : (H.push [vu, .int .i64 b, vr]).push [.slice none 0 0, .slice none 0 0, .slice none 0 0] = H0
  have k0 : Keep H H0 := by rw [← hG0]; repeat' (first | exact Keep.refl _ | assumption | refine Keep.push' ?_ | refine Keep.set' ?_ ?_ | refine Keep.moved' ?_ ?_ | omega)
  have g0 : H0.get H.nxt = some (.own [vu, .int .i64 b, vr]) := by rw [← hG0]; simp (maxSteps := 4000000) (disch := omega) only [Zq, evO, vbox, wr, Zeq, if_true, if_false, Nat.reduceEqDiff, Nat.reduceAdd, Nat.reduceLeDiff, Nat.reduceSub, and_self, and_true, true_and, reduceIte, reduceCtorEq, eq_self, implies_true, forall_const, false_implies, imp_self, decide_true, decide_false]
  have g0r : H0.get (H.nxt + 1) = some (.own [.slice none 0 0, .slice none 0 0, .slice none 0 0]) := by rw [← hG0]; simp (maxSteps := 4000000) (disch := omega) only [Zq, evO, vbox, wr, Zeq, if_true, if_false, Nat.reduceEqDiff, Nat.reduceAdd, Nat.reduceLeDiff, Nat.reduceSub, and_self, and_true, true_and, reduceIte, reduceCtorEq, eq_self, implies_true, forall_const, false_implies, imp_self, decide_true, decide_false]
  have n0 : H0.nxt = H.nxt + 2 := by rw [← hG0]; simp only [Zbg]
  clear hG0
  refine GO_call ((r_spec_PlantOk ((rSlc rInt).rdk hu k0) ((rSlc rRoute).rdk hr k0) tt).mono ?_)
  rintro _ H1 ⟨k1, rfl⟩
  have n1 := k1.nxt
  have g1 := (k1.get (H.nxt) (by omega)).trans g0
  have g1r := (k1.get (H.nxt + 1) (by omega)).trans g0r
  have k01 := k0.trans k1
  have bad : pkR (under, b, routes) ops = (([], [], []), []) → Keep H (H1.set (H.nxt + 1) [.slice none 0 0, .slice none 0 0, .slice none 0 0]) ∧ ∃ cs F cs1 F1, Value.tuple #[.agg #[.slice none 0 0, .slice none 0 0, .slice none 0 0], .slice none 0 0] = .tuple #[rLocking.val cs, (rSlc rInt).val cs1] ∧ rLocking.own (H1.set (H.nxt + 1) [.slice none 0 0, .slice none 0 0, .slice none 0 0]) cs (pkR (under, b, routes) ops).1 F ∧ Fresh H (H1.set (H.nxt + 1) [.slice none 0 0, .slice none 0 0, .slice none 0 0]) F ∧ (rSlc rInt).own (H1.set (H.nxt + 1) [.slice none 0 0, .slice none 0 0, .slice none 0 0]) cs1 (pkR (under, b, routes) ops).2 F1 ∧ Fresh H (H1.set (H.nxt + 1) [.slice none 0 0, .slice none 0 0, .slice none 0 0]) F1 ∧ ∀ i ∈ F, i ∉ F1 := fun hb => by
    rw [hb]
    exact ⟨k01.set' (by omega), _, _, [.slice none 0 0], [], rfl, bad_own _, ⟨by simp, by simp⟩, .inl ⟨rfl, rfl, rfl⟩, ⟨by simp, by simp⟩, by simp⟩
  by_cases hy : plOk under b routes = true
  rotate_left
  · have hy' : plOk under b routes = false := by simpa using hy
    have hfin := bad (by rw [pkR, if_neg (fun h => hy h.1)])
    simp (maxSteps := 4000000) (disch := omega) only [Zq, evO, vbox, wr, Zeq, if_true, if_false, Nat.reduceEqDiff, Nat.reduceAdd, Nat.reduceLeDiff, Nat.reduceSub, and_self, and_true, true_and, reduceIte, reduceCtorEq, eq_self, implies_true, forall_const, false_implies, imp_self, decide_true, decide_false, fix_nil, fix_cons, g0, g0r, g1, g1r, hy']
    exact hfin
  by_cases h300 : ops.length ≤ 300
  rotate_left
  · have hfin := bad (by rw [pkR, if_neg (fun h => h300 h.2)])
    simp (maxSteps := 4000000) (disch := omega) only [Zq, evO, vbox, wr, Zeq, if_true, if_false, Nat.reduceEqDiff, Nat.reduceAdd, Nat.reduceLeDiff, Nat.reduceSub, and_self, and_true, true_and, reduceIte, reduceCtorEq, eq_self, implies_true, forall_const, false_implies, imp_self, decide_true, decide_false, fix_nil, fix_cons, g0, g0r, g1, g1r, hy, lw]
    exact hfin
  clear bad
  have hpl : pkR (under, b, routes) ops = lkGo under b routes ops := by rw [pkR, if_pos ⟨hy, h300⟩]
  simp (maxSteps := 4000000) (disch := omega) only [Zq, evO, vbox, wr, Zeq, if_true, if_false, Nat.reduceEqDiff, Nat.reduceAdd, Nat.reduceLeDiff, Nat.reduceSub, and_self, and_true, true_and, reduceIte, reduceCtorEq, eq_self, implies_true, forall_const, false_implies, imp_self, decide_true, decide_false, fix_nil, fix_cons, g0, g0r, g1, g1r, hy, lw]
  refine GO_call ((r_spec_Bare ((rSlc rInt).rdk hu k01) ((rSlc rRoute).rdk hr k01) tt hy).mono ?_)
  rintro _ H2 ⟨k2, cs, F, rfl, o2, fr⟩
  obtain ⟨v1, w1, u1, rfl, _⟩ := locking_rd (x0 := (bareR under b routes).1) (x1 := (bareR under b routes).2.1) (x2 := (bareR under b routes).2.2) (rLocking.ownrd o2)
  have n2 := k2.nxt
  have g2 := (k2.get H.nxt (by omega)).trans g1
  have g2r := (k2.get (H.nxt + 1) (by omega)).trans g1r
  simp only [locking_val]
  simp (maxSteps := 4000000) (disch := omega) only [Zq, evO, vbox, wr, Zeq, if_true, if_false, Nat.reduceEqDiff, Nat.reduceAdd, Nat.reduceLeDiff, Nat.reduceSub, and_self, and_true, true_and, reduceIte, reduceCtorEq, eq_self, implies_true, forall_const, false_implies, imp_self, decide_true, decide_false, fix_nil, fix_cons, g0, g0r, g1, g1r, g2, g2r, lw]
  generalize hG4 : ((H2.push [.slice none 0 0, .slice none 0 0, .slice none 0 0]).set H2.nxt [v1, w1, u1]).push [] = H4
  have k4 : Keep H2 H4 := by rw [← hG4]; repeat' (first | exact Keep.refl _ | assumption | refine Keep.push' ?_ | refine Keep.set' ?_ ?_ | refine Keep.moved' ?_ ?_ | omega)
  have n4 : H4.nxt = H2.nxt + 2 := by rw [← hG4]; simp only [Zbg, Zbh]
  have g4 : H4.get H2.nxt = some (.own [v1, w1, u1]) := by rw [← hG4]; simp (maxSteps := 4000000) (disch := omega) only [Zq, evO, vbox, wr, Zeq, if_true, if_false, Nat.reduceEqDiff, Nat.reduceAdd, Nat.reduceLeDiff, Nat.reduceSub, and_self, and_true, true_and, reduceIte, reduceCtorEq, eq_self, implies_true, forall_const, false_implies, imp_self, decide_true, decide_false]
  have g4a := (k4.get H.nxt (by omega)).trans g2
  have g4r := (k4.get (H.nxt + 1) (by omega)).trans g2r
  have gn4 : H4.get (H2.nxt + 1) = some (.own []) := by rw [← hG4]; simp (maxSteps := 4000000) (disch := omega) only [Zq, evO, vbox, wr, Zeq, if_true, if_false, Nat.reduceEqDiff, Nat.reduceAdd, Nat.reduceLeDiff, Nat.reduceSub, and_self, and_true, true_and, reduceIte, reduceCtorEq, eq_self, implies_true, forall_const, false_implies, imp_self, decide_true, decide_false]
  have oc4 : (rSlc rInt).own H4 [.slice (some ⟨H2.nxt + 1, 0, none⟩) 0 1] [] [H2.nxt + 1] := leaf_own0 (xs := []) (p := H2.nxt + 1) (by omega) gn4
  have k14 := k2.trans k4
  have k04 := k01.trans k14
  have o4 := rLocking.ownKeep o2 k4
  have lt1 := rLocking.ownlt o2
  clear hG4 g0 g0r g1 g1r g2 g2r
  refine G_forF [1, 2, 4, 6] (ops.length) (fun i T H5 => T 8 = .int .i64 (i : Int) ∧ (H4.nxt ≤ H5.nxt ∧ ∀ a, a < H1.nxt → H5.get a = H4.get a) ∧ ∃ v5 w5 u5 F cv Fc, T 7 = cv ∧ H5.get H2.nxt = some (.own [v5, w5, u5]) ∧ rLocking.own H5 [v5, w5, u5] (lkGo under b routes (ops.take i)).1 F ∧ F.Nodup ∧ (∀ a ∈ F, H1.nxt ≤ a ∧ a ≠ H2.nxt ∧ a ∉ Fc) ∧ (rSlc rInt).own H5 [cv] (lkGo under b routes (ops.take i)).2 Fc ∧ Fc.Nodup ∧ ∀ a ∈ Fc, H1.nxt ≤ a ∧ a ≠ H2.nxt) 0 (Nat.zero_le _) ?_ ?_
  · simp (maxSteps := 4000000) (disch := omega) only [Zq, evO, vbox, wr, Zeq, if_true, if_false, Nat.reduceEqDiff, Nat.reduceAdd, Nat.reduceLeDiff, Nat.reduceSub, and_self, and_true, true_and, reduceIte, reduceCtorEq, eq_self, implies_true, forall_const, false_implies, imp_self, decide_true, decide_false, fix_nil, fix_cons, g4, g4a, g4r]
    exact ⟨v1, w1, u1, F, _, [H2.nxt + 1], rfl, rfl, o4, fr.1, fun a ha => ⟨(fr.2 a ha).1, by have := lt1 a ha; omega, by have := lt1 a ha; simp; omega⟩, oc4, by simp, fun a ha => by simp at ha; omega⟩
  rintro i T H5 hi hT ⟨t8, ⟨n5, kp5⟩, v5, w5, u5, F5, cv, Fc, t7, g5, o5, nd5, f5, oc5, ndc, fc⟩
  simp only [fix_nil, fix_cons, Zq, evO, vbox, wr, Zeq, if_true, if_false, Nat.reduceEqDiff, Nat.reduceAdd, Nat.reduceLeDiff, Nat.reduceSub, and_self, and_true, true_and, reduceIte, reduceCtorEq, eq_self, implies_true, forall_const, false_implies, imp_self, decide_true, decide_false] at hT
  obtain ⟨t1, t2, t4, t6⟩ := hT
  have k15 : Keep H1 H5 := ⟨by omega, fun a ha => by rw [kp5 a ha, k14.get a ha]⟩
  have k05 : Keep H H5 := k01.trans k15
  have g5a := (kp5 H.nxt (by omega)).trans g4a
  have g5r := (kp5 (H.nxt + 1) (by omega)).trans g4r
  obtain ⟨okI, lenC⟩ := lkGo_ok (ops := ops) hy i hi
  have totI : rLocking.tot (lkGo under b routes (ops.take i)).1 ≤ 1048576 := Nat.le_trans (lk_small okI) (by omega)
  obtain ⟨p0, p1, p2, e, r0, r1, r2⟩ := locking_rd (x0 := (lkGo under b routes (ops.take i)).1.1) (x1 := (lkGo under b routes (ops.take i)).1.2.1) (x2 := (lkGo under b routes (ops.take i)).1.2.2) (rLocking.ownrd o5)
  simp only [List.cons.injEq, and_true] at e
  obtain ⟨rfl, rfl, rfl⟩ := e
  have lc : ∀ H : Heap, vlen H cv = some (.int .i64 (lkGo under b routes (ops.take i)).2.length, H) := fun _ => slc_len ((rSlc rInt).ownrd oc5)
  have lt5 := rLocking.ownlt o5
  have ltc := (rSlc rInt).ownlt oc5
  by_cases hin : i < ops.length
  · have kx : Keep H5 ((H5.push [.slice none 0 0, .slice none 0 0, .slice none 0 0]).set H5.nxt [v5, w5, u5]) := by repeat' (first | exact Keep.refl _ | assumption | refine Keep.push' ?_ | refine Keep.set' ?_ ?_ | refine Keep.moved' ?_ ?_ | omega)
    have ixo := fun H0 : Heap => slc_idx (r := rLockOp) (H1 := H0) (sz := 2) (i := i) (k := .i64) rfl h3 hin
    have fxo := fun (H0 : Heap) (o off : Nat) => slc_fad (r := rLockOp) (H1 := H0) (sz := 2) (o := o) (off := off) rfl h3 hin
    have e1 := (op_el ((rSlc rLockOp).rdk h3 (k05.trans kx)) hin).2.1
    simp (maxSteps := 4000000) (disch := omega) only [Zq, evO, vbox, wr, Zeq, if_true, if_false, Nat.reduceEqDiff, Nat.reduceAdd, Nat.reduceLeDiff, Nat.reduceSub, and_self, and_true, true_and, reduceIte, reduceCtorEq, eq_self, implies_true, forall_const, false_implies, imp_self, decide_true, decide_false, fix_nil, fix_cons, g4, g4a, g4r, t1, t2, t4, t6, t8, t7, g5, g5a, g5r, lw, ixo, fxo, e1]
    clear e1 kx
    generalize hG6 : (H5.push [.slice none 0 0, .slice none 0 0, .slice none 0 0]).set H5.nxt [v5, w5, u5] = H6
    have k6 : Keep H5 H6 := by rw [← hG6]; repeat' (first | exact Keep.refl _ | assumption | refine Keep.push' ?_ | refine Keep.set' ?_ ?_ | refine Keep.moved' ?_ ?_ | omega)
    have g6 : H6.get H5.nxt = some (.own [v5, w5, u5]) := by rw [← hG6, Zbi, if_pos rfl]
    have n6 : H6.nxt = H5.nxt + 1 := by rw [← hG6, Zbh, Zbg]
    have g6a := (k6.get H.nxt (by omega)).trans g5a
    have g6r := (k6.get (H.nxt + 1) (by omega)).trans g5r
    have g6q := (k6.get H2.nxt (by omega)).trans g5
    have k16 := k15.trans k6
    have k06 := k01.trans k16
    have e2 := (op_el ((rSlc rLockOp).rdk h3 k06) hin).2.2
    clear hG6 g4 g4a g4r
    obtain ⟨L, hL⟩ : ∃ L, L = (lkGo under b routes (ops.take i)).1 := ⟨_, rfl⟩
    obtain ⟨R, hR⟩ : ∃ R, R = lkDo under b routes L ops[i] := ⟨_, rfl⟩
    rw [← hL] at o5 okI totI r0 r1 r2
    have s0 := (rSlc rInt).rdk r0 k6
    have s1 := (rSlc rBool).rdk r1 k6
    have s2 := (rSlc rBool).rdk r2 k6
    have c1 := t1
    have c2 := t2
    have c4 := t4
    have c6 := t6
    have c7 := t7
    have c8 := t8
    have meet : ∀ {H7 : Heap} {v7 w7 u7 : Value} {R1 : Lo} {F7 : List Nat}, Keep H6 H7 → rLocking.own H7 [v7, w7, u7] R1 F7 → Fresh H6 H7 F7 → Keep H5 (H7.set H5.nxt [v7, w7, u7]) ∧ H5.nxt < H7.nxt ∧ ∃ v6 w6 u6 F6, some (Obj.own [v7, w7, u7]) = some (Obj.own [v6, w6, u6]) ∧ rLocking.own (H7.set H5.nxt [v7, w7, u7]) [v6, w6, u6] R1 F6 ∧ F6.Nodup ∧ ∀ a ∈ F6, a ∈ F5 ∨ H5.nxt < a := by
      intro H7 v7 w7 u7 R1 F7 k7 o7 fr7
      have n7 := k7.nxt
      refine ⟨(k6.trans k7).set' (by omega), by omega, v7, w7, u7, F7, rfl, rLocking.ownk o7 (by rw [Zbh]; omega) (fun a ha => ?_), fr7.1, fun a ha => .inr ?_⟩
      · have := fr7.2 a ha
        rw [Zbi, if_neg (by omega)]
      · have := fr7.2 a ha
        omega
    refine cK_cutB (fun T' H' => T' 1 = w ∧ T' 2 = ptr H.nxt 0 ∧ T' 4 = ptr (H.nxt + 1) 0 ∧ T' 6 = ptr H2.nxt 0 ∧ T' 7 = cv ∧ T' 8 = .int .i64 (i : Int) ∧ T' 9 = .int .i64 R.2 ∧ T' 10 = ptr H5.nxt 0 ∧ Keep H5 H' ∧ H5.nxt < H'.nxt ∧ ∃ v6 w6 u6 F6, H'.get H5.nxt = some (.own [v6, w6, u6]) ∧ rLocking.own H' [v6, w6, u6] R.1 F6 ∧ F6.Nodup ∧ ∀ a ∈ F6, a ∈ F5 ∨ H5.nxt < a) ?_ ?_
    · by_cases d0 : ops[i].1 = 0
      · have hR' : R = rqR under b routes L ops[i].2 := by rw [hR, lkDo]; exact if_pos d0
        have e := opR_ok (opf := rqR) (p := (under, b, routes)) (L := (L.1, L.2.1, L.2.2)) (k := ops[i].2) okI
        simp (maxSteps := 4000000) (disch := omega) only [Zq, evO, vbox, wr, Zeq, if_true, if_false, Nat.reduceEqDiff, Nat.reduceAdd, Nat.reduceLeDiff, Nat.reduceSub, and_self, and_true, true_and, reduceIte, reduceCtorEq, eq_self, implies_true, forall_const, false_implies, imp_self, decide_true, decide_false, fix_nil, fix_cons, t1, t2, t4, t6, t8, t7, g5, g5a, g5r, g6, g6a, g6r, g6q, Zfl d0]
        refine G_tame rfl ?_
        simp (maxSteps := 4000000) (disch := omega) only [Zq, evO, vbox, wr, Zeq, if_true, if_false, Nat.reduceEqDiff, Nat.reduceAdd, Nat.reduceLeDiff, Nat.reduceSub, and_self, and_true, true_and, reduceIte, reduceCtorEq, eq_self, implies_true, forall_const, false_implies, imp_self, decide_true, decide_false, fix_nil, fix_cons, t1, t2, t4, t6, t8, t7, g5, g5a, g5r, g6, g6a, g6r, g6q, ixo, fxo, e2]
        refine GO_call_eq (by simp (maxSteps := 4000000) (disch := omega) only [Zq, evO, vbox, wr, Zeq, if_true, if_false, Nat.reduceEqDiff, Nat.reduceAdd, Nat.reduceLeDiff, Nat.reduceSub, and_self, and_true, true_and, reduceIte, reduceCtorEq, eq_self, implies_true, forall_const, false_implies, imp_self, decide_true, decide_false, fix_nil, fix_cons, t1, t2, t4, t6, t8, t7, g5, g5a, g5r, g6, g6a, g6r, g6q]) ((r_spec_Request (k := ops[i].2) ((rSlc rInt).rdk hu k06) ((rSlc rRoute).rdk hr k06) s0 s1 s2 tt totI).mono ?_)
        rintro _ H7 ⟨k7, cs7, F7, rfl, o7, fr7⟩
        rw [e] at o7 ⊢
        obtain ⟨v7, w7, u7, rfl, _⟩ := locking_rd (x0 := (rqR under b routes (L.1, L.2.1, L.2.2) ops[i].2).1.1) (x1 := (rqR under b routes (L.1, L.2.1, L.2.2) ops[i].2).1.2.1) (x2 := (rqR under b routes (L.1, L.2.1, L.2.2) ops[i].2).1.2.2) (rLocking.ownrd o7)
        have n7 := k7.nxt
        have g7 := (k7.get H5.nxt (by omega)).trans g6
        simp only [locking_val]
        simp (maxSteps := 4000000) (disch := omega) only [Zq, evO, vbox, wr, Zeq, if_true, if_false, Nat.reduceEqDiff, Nat.reduceAdd, Nat.reduceLeDiff, Nat.reduceSub, and_self, and_true, true_and, reduceIte, reduceCtorEq, eq_self, implies_true, forall_const, false_implies, imp_self, decide_true, decide_false, fix_nil, fix_cons, t1, t2, t4, t6, t8, t7, g5, g5a, g5r, g6, g6a, g6r, g6q, g7]
        rw [hR']
        exact ⟨rfl, meet k7 o7 fr7⟩
      by_cases d1 : ops[i].1 = 1
      · have hR' : R = occR under b routes L ops[i].2 := by rw [hR, lkDo]; rw [if_neg d0]; exact if_pos d1
        have e := opR_ok (opf := occR) (p := (under, b, routes)) (L := (L.1, L.2.1, L.2.2)) (k := ops[i].2) okI
        simp (maxSteps := 4000000) (disch := omega) only [Zq, evO, vbox, wr, Zeq, if_true, if_false, Nat.reduceEqDiff, Nat.reduceAdd, Nat.reduceLeDiff, Nat.reduceSub, and_self, and_true, true_and, reduceIte, reduceCtorEq, eq_self, implies_true, forall_const, false_implies, imp_self, decide_true, decide_false, fix_nil, fix_cons, t1, t2, t4, t6, t8, t7, g5, g5a, g5r, g6, g6a, g6r, g6q, Zfm d0, Zfl d1]
        refine G_tame rfl ?_
        simp (maxSteps := 4000000) (disch := omega) only [Zq, evO, vbox, wr, Zeq, if_true, if_false, Nat.reduceEqDiff, Nat.reduceAdd, Nat.reduceLeDiff, Nat.reduceSub, and_self, and_true, true_and, reduceIte, reduceCtorEq, eq_self, implies_true, forall_const, false_implies, imp_self, decide_true, decide_false, fix_nil, fix_cons, t1, t2, t4, t6, t8, t7, g5, g5a, g5r, g6, g6a, g6r, g6q, ixo, fxo, e2]
        refine GO_call_eq (by simp (maxSteps := 4000000) (disch := omega) only [Zq, evO, vbox, wr, Zeq, if_true, if_false, Nat.reduceEqDiff, Nat.reduceAdd, Nat.reduceLeDiff, Nat.reduceSub, and_self, and_true, true_and, reduceIte, reduceCtorEq, eq_self, implies_true, forall_const, false_implies, imp_self, decide_true, decide_false, fix_nil, fix_cons, t1, t2, t4, t6, t8, t7, g5, g5a, g5r, g6, g6a, g6r, g6q]) ((r_spec_Occupy (k := ops[i].2) ((rSlc rInt).rdk hu k06) ((rSlc rRoute).rdk hr k06) s0 s1 s2 tt totI).mono ?_)
        rintro _ H7 ⟨k7, cs7, F7, rfl, o7, fr7⟩
        rw [e] at o7 ⊢
        obtain ⟨v7, w7, u7, rfl, _⟩ := locking_rd (x0 := (occR under b routes (L.1, L.2.1, L.2.2) ops[i].2).1.1) (x1 := (occR under b routes (L.1, L.2.1, L.2.2) ops[i].2).1.2.1) (x2 := (occR under b routes (L.1, L.2.1, L.2.2) ops[i].2).1.2.2) (rLocking.ownrd o7)
        have n7 := k7.nxt
        have g7 := (k7.get H5.nxt (by omega)).trans g6
        simp only [locking_val]
        simp (maxSteps := 4000000) (disch := omega) only [Zq, evO, vbox, wr, Zeq, if_true, if_false, Nat.reduceEqDiff, Nat.reduceAdd, Nat.reduceLeDiff, Nat.reduceSub, and_self, and_true, true_and, reduceIte, reduceCtorEq, eq_self, implies_true, forall_const, false_implies, imp_self, decide_true, decide_false, fix_nil, fix_cons, t1, t2, t4, t6, t8, t7, g5, g5a, g5r, g6, g6a, g6r, g6q, g7]
        rw [hR']
        exact ⟨rfl, meet k7 o7 fr7⟩
      by_cases d2 : ops[i].1 = 2
      · have hR' : R = vaR under b routes L ops[i].2 := by rw [hR, lkDo]; rw [if_neg d0]; rw [if_neg d1]; exact if_pos d2
        have e := opR_ok (opf := vaR) (p := (under, b, routes)) (L := (L.1, L.2.1, L.2.2)) (k := ops[i].2) okI
        simp (maxSteps := 4000000) (disch := omega) only [Zq, evO, vbox, wr, Zeq, if_true, if_false, Nat.reduceEqDiff, Nat.reduceAdd, Nat.reduceLeDiff, Nat.reduceSub, and_self, and_true, true_and, reduceIte, reduceCtorEq, eq_self, implies_true, forall_const, false_implies, imp_self, decide_true, decide_false, fix_nil, fix_cons, t1, t2, t4, t6, t8, t7, g5, g5a, g5r, g6, g6a, g6r, g6q, Zfm d0, Zfm d1, Zfl d2]
        refine G_tame rfl ?_
        simp (maxSteps := 4000000) (disch := omega) only [Zq, evO, vbox, wr, Zeq, if_true, if_false, Nat.reduceEqDiff, Nat.reduceAdd, Nat.reduceLeDiff, Nat.reduceSub, and_self, and_true, true_and, reduceIte, reduceCtorEq, eq_self, implies_true, forall_const, false_implies, imp_self, decide_true, decide_false, fix_nil, fix_cons, t1, t2, t4, t6, t8, t7, g5, g5a, g5r, g6, g6a, g6r, g6q, ixo, fxo, e2]
        refine GO_call_eq (by simp (maxSteps := 4000000) (disch := omega) only [Zq, evO, vbox, wr, Zeq, if_true, if_false, Nat.reduceEqDiff, Nat.reduceAdd, Nat.reduceLeDiff, Nat.reduceSub, and_self, and_true, true_and, reduceIte, reduceCtorEq, eq_self, implies_true, forall_const, false_implies, imp_self, decide_true, decide_false, fix_nil, fix_cons, t1, t2, t4, t6, t8, t7, g5, g5a, g5r, g6, g6a, g6r, g6q]) ((r_spec_Vacate (k := ops[i].2) ((rSlc rInt).rdk hu k06) ((rSlc rRoute).rdk hr k06) s0 s1 s2 tt totI).mono ?_)
        rintro _ H7 ⟨k7, cs7, F7, rfl, o7, fr7⟩
        rw [e] at o7 ⊢
        obtain ⟨v7, w7, u7, rfl, _⟩ := locking_rd (x0 := (vaR under b routes (L.1, L.2.1, L.2.2) ops[i].2).1.1) (x1 := (vaR under b routes (L.1, L.2.1, L.2.2) ops[i].2).1.2.1) (x2 := (vaR under b routes (L.1, L.2.1, L.2.2) ops[i].2).1.2.2) (rLocking.ownrd o7)
        have n7 := k7.nxt
        have g7 := (k7.get H5.nxt (by omega)).trans g6
        simp only [locking_val]
        simp (maxSteps := 4000000) (disch := omega) only [Zq, evO, vbox, wr, Zeq, if_true, if_false, Nat.reduceEqDiff, Nat.reduceAdd, Nat.reduceLeDiff, Nat.reduceSub, and_self, and_true, true_and, reduceIte, reduceCtorEq, eq_self, implies_true, forall_const, false_implies, imp_self, decide_true, decide_false, fix_nil, fix_cons, t1, t2, t4, t6, t8, t7, g5, g5a, g5r, g6, g6a, g6r, g6q, g7]
        rw [hR']
        exact ⟨rfl, meet k7 o7 fr7⟩
      by_cases d3 : ops[i].1 = 3
      · have hR' : R = wiR under b routes L ops[i].2 := by rw [hR, lkDo]; rw [if_neg d0]; rw [if_neg d1]; rw [if_neg d2]; exact if_pos d3
        have e := opR_ok (opf := wiR) (p := (under, b, routes)) (L := (L.1, L.2.1, L.2.2)) (k := ops[i].2) okI
        simp (maxSteps := 4000000) (disch := omega) only [Zq, evO, vbox, wr, Zeq, if_true, if_false, Nat.reduceEqDiff, Nat.reduceAdd, Nat.reduceLeDiff, Nat.reduceSub, and_self, and_true, true_and, reduceIte, reduceCtorEq, eq_self, implies_true, forall_const, false_implies, imp_self, decide_true, decide_false, fix_nil, fix_cons, t1, t2, t4, t6, t8, t7, g5, g5a, g5r, g6, g6a, g6r, g6q, Zfm d0, Zfm d1, Zfm d2, Zfl d3]
        refine G_tame rfl ?_
        simp (maxSteps := 4000000) (disch := omega) only [Zq, evO, vbox, wr, Zeq, if_true, if_false, Nat.reduceEqDiff, Nat.reduceAdd, Nat.reduceLeDiff, Nat.reduceSub, and_self, and_true, true_and, reduceIte, reduceCtorEq, eq_self, implies_true, forall_const, false_implies, imp_self, decide_true, decide_false, fix_nil, fix_cons, t1, t2, t4, t6, t8, t7, g5, g5a, g5r, g6, g6a, g6r, g6q, ixo, fxo, e2]
        refine GO_call_eq (by simp (maxSteps := 4000000) (disch := omega) only [Zq, evO, vbox, wr, Zeq, if_true, if_false, Nat.reduceEqDiff, Nat.reduceAdd, Nat.reduceLeDiff, Nat.reduceSub, and_self, and_true, true_and, reduceIte, reduceCtorEq, eq_self, implies_true, forall_const, false_implies, imp_self, decide_true, decide_false, fix_nil, fix_cons, t1, t2, t4, t6, t8, t7, g5, g5a, g5r, g6, g6a, g6r, g6q]) ((r_spec_Withdraw (k := ops[i].2) ((rSlc rInt).rdk hu k06) ((rSlc rRoute).rdk hr k06) s0 s1 s2 tt totI).mono ?_)
        rintro _ H7 ⟨k7, cs7, F7, rfl, o7, fr7⟩
        rw [e] at o7 ⊢
        obtain ⟨v7, w7, u7, rfl, _⟩ := locking_rd (x0 := (wiR under b routes (L.1, L.2.1, L.2.2) ops[i].2).1.1) (x1 := (wiR under b routes (L.1, L.2.1, L.2.2) ops[i].2).1.2.1) (x2 := (wiR under b routes (L.1, L.2.1, L.2.2) ops[i].2).1.2.2) (rLocking.ownrd o7)
        have n7 := k7.nxt
        have g7 := (k7.get H5.nxt (by omega)).trans g6
        simp only [locking_val]
        simp (maxSteps := 4000000) (disch := omega) only [Zq, evO, vbox, wr, Zeq, if_true, if_false, Nat.reduceEqDiff, Nat.reduceAdd, Nat.reduceLeDiff, Nat.reduceSub, and_self, and_true, true_and, reduceIte, reduceCtorEq, eq_self, implies_true, forall_const, false_implies, imp_self, decide_true, decide_false, fix_nil, fix_cons, t1, t2, t4, t6, t8, t7, g5, g5a, g5r, g6, g6a, g6r, g6q, g7]
        rw [hR']
        exact ⟨rfl, meet k7 o7 fr7⟩
      have hR' : R = (L, 1) := by rw [hR, lkDo]; rw [if_neg d0, if_neg d1, if_neg d2, if_neg d3]
      simp (maxSteps := 4000000) (disch := omega) only [Zq, evO, vbox, wr, Zeq, if_true, if_false, Nat.reduceEqDiff, Nat.reduceAdd, Nat.reduceLeDiff, Nat.reduceSub, and_self, and_true, true_and, reduceIte, reduceCtorEq, eq_self, implies_true, forall_const, false_implies, imp_self, decide_true, decide_false, fix_nil, fix_cons, t1, t2, t4, t6, t8, t7, g5, g5a, g5r, g6, g6a, g6r, g6q, Zfm d0, Zfm d1, Zfm d2, Zfm d3]
      rw [hR']
      exact ⟨rfl, k6, by omega, v5, w5, u5, F5, rfl, rLocking.ownKeep o5 k6, nd5, fun a ha => .inl ha⟩
    rintro T2 H7 ⟨t1, t2, t4, t6, t7, t8, t9, t10, k57, n57, v6, w6, u6, F6, g7, o7, nd7, f7⟩
    have k07 := k05.trans k57
    have g7q := (k57.get H2.nxt (by omega)).trans g5
    obtain ⟨q0, q1, q2, e, z0, z1, z2⟩ := locking_rd (x0 := R.1.1) (x1 := R.1.2.1) (x2 := R.1.2.2) (rLocking.ownrd o7)
    simp only [List.cons.injEq, and_true] at e
    obtain ⟨rfl, rfl, rfl⟩ := e
    obtain ⟨va, vb⟩ := slc_cell z0
    obtain ⟨wa, wb⟩ := slc_cell z1
    obtain ⟨ua, ub⟩ := slc_cell z2
    have hsu := lkGo_succ (under := under) (b := b) (routes := routes) hin
    rw [lkStep, ← hL, ← hR] at hsu
    have lt7 := rLocking.ownlt o7
    have ocx : (rSlc rInt).own (H7.set H2.nxt [v6, w6, u6]) [cv] (lkGo under b routes (ops.take i)).2 Fc := (rSlc rInt).ownk oc5 (by simp only [Zbh]; omega) (fun a ha => by
      have := ltc a ha
      have := (fc a ha).2
      rw [Zbi, if_neg (by omega), k57.get a (by omega)])
    obtain ⟨u8, H8, F8, e8, o8, c8, f8, nd8, _⟩ := own_app (r := rInt) (bytes := 8) (sz := 1) rfl (by omega) ocx (row := [.int .i64 R.2]) (y := R.2) (G := []) ⟨rfl, rfl⟩ ndc (by simp) (by simp) (by omega)
    simp only [Zbh] at e8
    have n8 := c8.nxt
    simp only [Zbh] at n8
    have h8 : ∀ a, a < H7.nxt → a ∉ Fc → H8.get a = (H7.set H2.nxt [v6, w6, u6]).get a := fun a ha hn => c8.get a (by simp only [Zbh]; exact ha) hn
    have g8 : H8.get H2.nxt = some (.own [v6, w6, u6]) := by rw [h8 _ (by omega) (fun h => (fc _ h).2 rfl), Zbi, if_pos rfl]
    have nq : ∀ a ∈ F6, H1.nxt ≤ a ∧ a ≠ H2.nxt ∧ a ∉ Fc := fun a ha => by
      rcases f7 a ha with h | h
      · exact f5 a h
      · exact ⟨by omega, by omega, fun hc => by have := ltc a hc; omega⟩
    have o78 : rLocking.own H8 [v6, w6, u6] (lkGo under b routes (ops.take (i + 1))).1 F6 := by
      rw [hsu]
      refine rLocking.ownk o7 (by omega) (fun a ha => ?_)
      have h1 := nq a ha
      have h2 := lt7 a ha
      rw [h8 a h2 h1.2.2, Zbi, if_neg h1.2.1]
    have o8' : (rSlc rInt).own H8 [u8] (lkGo under b routes (ops.take (i + 1))).2 F8 := by rw [hsu]; exact o8
    simp (maxSteps := 4000000) (disch := omega) only [Zq, evO, vbox, wr, Zeq, if_true, if_false, Nat.reduceEqDiff, Nat.reduceAdd, Nat.reduceLeDiff, Nat.reduceSub, and_self, and_true, true_and, reduceIte, reduceCtorEq, eq_self, implies_true, forall_const, false_implies, imp_self, decide_true, decide_false, fix_nil, fix_cons, t1, t2, t4, t6, t8, t7, g5, g5a, g5r, g6, g6a, g6r, g6q, t9, t10, g7, g7q, g8, va, vb, wa, wb, ua, ub, Zff, e8]
    refine ⟨hin, ⟨by omega, fun a ha => ?_⟩, v6, w6, u6, F6, u8, F8, rfl, rfl, o78, nd7, fun a ha => ⟨(nq a ha).1, (nq a ha).2.1, fun h => ?_⟩, o8', nd8, fun a ha => ?_⟩
    · rw [h8 a (by omega) (fun h => by have := (fc a h).1; omega), Zbi, if_neg (by omega), k57.get a (by omega), kp5 a ha]
    · have h1 := lt7 a ha
      rcases f8 a h with h | h | h
      · exact (nq a ha).2.2 h
      · simp at h
      · simp only [Zbh] at h; omega
    · rcases f8 a ha with h | h | h
      · exact fc a h
      · simp at h
      · simp only [Zbh] at h; omega
  obtain rfl : i = ops.length := by omega
  rw [List.take_length] at o5 oc5
  obtain ⟨ca, cb⟩ := slc_cell ((rSlc rInt).ownrd oc5)
  simp (maxSteps := 4000000) (disch := omega) only [Zq, evO, vbox, wr, Zeq, if_true, if_false, Nat.reduceEqDiff, Nat.reduceAdd, Nat.reduceLeDiff, Nat.reduceSub, and_self, and_true, true_and, reduceIte, reduceCtorEq, eq_self, implies_true, forall_const, false_implies, imp_self, decide_true, decide_false, fix_nil, fix_cons, t1, t2, t4, t6, t8, t7, g5, g5a, g5r, lw, cb]
  rw [hpl]
  refine ⟨k05.set' (by omega), [v5, w5, u5], F5, [cv], Fc, rfl, ?_, ⟨nd5, fun a ha => ?_⟩, ?_, ⟨ndc, fun a ha => ?_⟩, fun a ha => (f5 a ha).2.2⟩
  · refine rLocking.ownk o5 (by rw [Zbh]; omega) (fun a ha => ?_)
    have := (f5 a ha).1
    rw [Zbi, if_neg (by omega)]
  · rw [Zbh]
    have := (f5 a ha).1
    have := lt5 a ha
    omega
  · refine (rSlc rInt).ownk oc5 (by rw [Zbh]; omega) (fun a ha => ?_)
    have := (fc a ha).1
    rw [Zbi, if_neg (by omega)]
  · rw [Zbh]
    have := (fc a ha).1
    have := ltc a ha
    omega
end Go.Proofs.Ythjphddodooahaa.AX
namespace Go.Proofs.Ythjphddodooahaa.AX
open Go
set_option maxRecDepth 10000
set_option linter.unusedSimpArgs false
set_option linter.unusedVariables false
section
variable {under : List Int} {b : Int} {routes : List Rt} {L : Lo}
/-- What is told but 0 has turned nothing; with 0 a point turns by a request alone, and over a free block. -/
def Calm (under : List Int) (kind : Int) (L : Lo) (r : Lo × Int) : Prop := (r.2 ≠ 0 → r.1 = L) ∧ ∀ k, k < L.1.length → r.1.1.getD k 0 ≠ L.1.getD k 0 → kind = 0 ∧ L.2.2.getD (under.getD k 0).toNat false = false
theorem calm_same {kind c : Int} : Calm under kind L (L, c) := ⟨fun _ => rfl, fun k _ h => absurd rfl h⟩
theorem calm_pos {kind c : Int} {s t : List Bool} (h : c = 0) : Calm under kind L ((L.1, s, t), c) := ⟨fun h1 => absurd h h1, fun k _ h => absurd rfl h⟩
theorem rq_calm {k : Int} (hok : lkOk under b routes L.1 L.2.1 L.2.2 = true) : Calm under 0 L (rqR under b routes L k) := by
  unfold rqR
  split
  · rename_i hk
    split
    · exact calm_same
    · split
      · split
        · split
          · rename_i hst
            refine ⟨fun h => absurd rfl h, fun i hi h => ⟨rfl, ?_⟩⟩
            rcases setN_get (p := i) (rt routes k.toNat).1 L.1 hi with ⟨x, hx, e1, e2⟩ | ⟨_, e2⟩
            · simp only at h
              rw [e2] at h
              obtain ⟨m, hm, rfl⟩ := nd_mem hx
              have := allTo_iff.1 hst m hm
              rw [stNo, e1] at this
              simp only [Bool.or_eq_true, decide_eq_true_eq, Bool.not_eq_true'] at this
              rcases this with h2 | h2
              · exact absurd h2.symm h
              · exact h2
            · exact absurd e2 h
          · exact calm_same
        · exact calm_same
      · exact calm_same
  · exact calm_same
theorem occ_calm {k : Int} : Calm under 1 L (occR under b routes L k) := by
  unfold occR
  split
  · split
    · exact calm_same
    · split
      · exact calm_same
      · exact calm_pos rfl
  · exact calm_same
theorem va_calm {k : Int} : Calm under 2 L (vaR under b routes L k) := by
  unfold vaR
  split
  · split
    · exact calm_pos rfl
    · exact calm_same
  · exact calm_same
theorem wi_calm {k : Int} : Calm under 3 L (wiR under b routes L k) := by
  unfold wiR
  split
  · split
    · split
      · exact calm_pos rfl
      · exact calm_same
    · exact calm_same
  · exact calm_same
theorem do_calm {o : Int × Int} (hok : lkOk under b routes L.1 L.2.1 L.2.2 = true) : Calm under o.1 L (lkDo under b routes L o) := by
  unfold lkDo
  split
  · rename_i h; rw [h]; exact rq_calm hok
  · split
    · rename_i h; rw [h]; exact occ_calm
    · split
      · rename_i h; rw [h]; exact va_calm
      · split
        · rename_i h; rw [h]; exact wi_calm
        · exact calm_same
/-- What is told of op i. -/
theorem lkGo_code {ops : List (Int × Int)} (hp : plOk under b routes = true) {i : Nat} (hi : i < ops.length) : ∀ m, i < m → m ≤ ops.length → (lkGo under b routes (ops.take m)).2.getD i 0 = (lkDo under b routes (lkGo under b routes (ops.take i)).1 ops[i]).2
  | 0, h, _ => by omega
  | m + 1, h, hm => by
    rw [lkGo_succ (i := m) (by omega), lkStep]
    have hl := (lkGo_ok (ops := ops) hp m (by omega)).2
    simp only [List.getD_eq_getElem?_getD]
    by_cases e : i = m
    · subst e
      rw [List.getElem?_append_right (by omega), hl, Nat.sub_self]
      rfl
    · have := lkGo_code hp hi m (by omega) (by omega)
      rw [List.getD_eq_getElem?_getD] at this
      rw [List.getElem?_append_left (by omega)]
      exact this
theorem lkGo_step {ops : List (Int × Int)} {i : Nat} (hi : i < ops.length) : (lkGo under b routes (ops.take (i + 1))).1 = (lkDo under b routes (lkGo under b routes (ops.take i)).1 ops[i]).1 := by
  rw [lkGo_succ hi]
  rfl
end
end Go.Proofs.Ythjphddodooahaa.AX
namespace Go.Proofs.Ythjphddodooahaa.AX
open Go
set_option maxRecDepth 10000
set_option maxHeartbeats 4000000
set_option linter.unusedSimpArgs false
set_option linter.unusedVariables false
/-- A list under construction; old memory is as it was, but for the cursor at p. -/
structure GP {α : Type} (r : Rep α) (B : Heap) (v : Value) (code : List Int) (p : Nat) (H H1 : Heap) (w : Value) (xs : List α) (F : List Nat) : Prop where
  chg : Chg [p] H H1
  cur : Cur B v code H1 p
  pl : p < H.nxt
  o : (rSlc r).own H1 [w] xs F
  nd : F.Nodup
  fr : ∀ a ∈ F, H.nxt ≤ a
section
variable {α : Type} {r : Rep α} {B : Heap} {v : Value} {code : List Int} {p : Nat} {H H1 H2 : Heap} {w : Value} {xs : List α} {F : List Nat} {sz bytes : Nat}
theorem GP.mv (h : GP r B v code p H H1 w xs F) (c : Chg [p] H1 H2) (cu : Cur B v code H2 p) : GP r B v code p H H2 w xs F :=
  ⟨h.chg.trans c, cu, h.pl, (rSlc r).ownChg h.o c (fun a ha hm => by have := h.fr a ha; have := h.pl; simp at hm; omega), h.nd, h.fr⟩
theorem GP.keep (h : GP r B v code p H H1 w xs F) (k : Keep H1 H2) : GP r B v code p H H2 w xs F := h.mv k.chg (h.cur.chg k)
theorem GP.app (h : GP r B v code p H H1 w xs F) (hz : r.sz = sz) (h0 : 0 < sz) {row : List Value} {y : α} {G : List Nat} (hy : r.own H1 row y G) (hG : G.Nodup) (hd : ∀ a ∈ G, H.nxt ≤ a ∧ a ∉ F) (hb : (xs.length + 1) * bytes ≤ 140737488355328) :
    ∃ u H2 F', vapp (H1.push row) sz bytes w (.slice (some ⟨H1.nxt, 0, none⟩) 1 sz) = some (u, H2) ∧ GP r B v code p H H2 u (xs ++ [y]) F' ∧ H1.nxt ≤ H2.nxt ∧ ∀ a, a < H1.nxt → a ∉ F → H2.get a = H1.get a := by
  obtain ⟨u, H2, F', e, o, c, f, nd, _⟩ := own_app (bytes := bytes) hz h0 h.o hy h.nd hG (fun a ha => (hd a ha).2) hb
  have n := c.nxt
  have nH := h.chg.nxt
  have pl := h.pl
  have old : ∀ a, a < H1.nxt → a ∉ F → H2.get a = H1.get a := fun a ha hm => c.get a ha hm
  have pF : p ∉ F := fun hm => by have := h.fr p hm; omega
  refine ⟨u, H2, F', e, ⟨⟨by omega, fun a ha hm => ?_⟩, cur_ch (G := F) h.cur n old (fun a ha => ?_) pF, pl, o, nd, fun a ha => ?_⟩, n, old⟩
  · rw [old a (by omega) (fun hh => by have := h.fr a hh; omega), h.chg.get a ha hm]
  · have := h.fr a ha
    have := h.cur.2.1
    omega
  · rcases f a ha with h1 | h1 | h1
    · exact h.fr a h1
    · exact (hd a h1).1
    · omega
theorem GP.new (c : Cur B v code H p) (hz : r.sz = sz) : GP r B v code p H (H.push []) (.slice (some ⟨H.nxt, 0, none⟩) 0 sz) [] [H.nxt] :=
  ⟨(Keep.push _ _).chg, c.chg (Keep.push _ _), c.2.2.1, own_new' hz, by simp, by simp⟩
end
section
variable {B : Heap} {v : Value} {code : List Int} {p : Nat} {H : Heap}
theorem r_spec_l01PickInt {w : Value} {xs : List Int} (hb : Bts' B v code) (hl : code.length ≤ 1048576) (hc : ∀ x ∈ code, 0 ≤ x ∧ x ≤ 255) (c : Cur B v code H p) (hw : Ints H w xs) (hp : blk w ≠ p) (hn : 1 ≤ xs.length) (hn' : xs.length ≤ 1000000) : Run Try.prog 76 [ptr p 0, w] H fun r H' => Chg [p] H H' ∧ Cur B v code H' p ∧ ∃ z : Nat, z < xs.length ∧ r = .int .i64 (xs.getD z 0) := by
  have lw : ∀ H : Heap, vlen H w = some (.int .i64 xs.length, H) := fun _ => Sl.len_ hw
  refine Run.intro c76 rfl ?_
  simp (maxSteps := 4000000) (disch := omega) only [Zq, evO, vbox, wr, Zeq, if_true, if_false, Nat.reduceEqDiff, Nat.reduceAdd, Nat.reduceLeDiff, Nat.reduceSub, and_self, and_true, true_and, reduceIte, reduceCtorEq, eq_self, implies_true, forall_const, false_implies, imp_self, decide_true, decide_false, x76, lw]
  refine GO_call ((r_spec_l01Below hb hl hc c hn hn').mono ?_)
  rintro _ H1 ⟨c1, u1, z, rfl, hz⟩
  have bl := Sl.blk_lt hw hz
  have hw1 : Ints H1 w xs := Sl.agree hw c1.nxt (c1.get _ bl (by simpa using hp))
  simp (maxSteps := 4000000) (disch := omega) only [Zq, evO, vbox, wr, Zeq, if_true, if_false, Nat.reduceEqDiff, Nat.reduceAdd, Nat.reduceLeDiff, Nat.reduceSub, and_self, and_true, true_and, reduceIte, reduceCtorEq, eq_self, implies_true, forall_const, false_implies, imp_self, decide_true, decide_false, fix_nil, fix_cons, hw1.idx hz, hw1.ld hz]
  exact ⟨c1, u1, z, hz, rfl⟩
theorem r_spec_l01Size {n : Nat} (hb : Bts' H v code) (hl : code.length ≤ 1048576) (hn : n ≤ 1000000) : Run Try.prog 75 [v, .int .i64 (n : Int)] H fun r H' => Keep H H' ∧ ∃ z : Nat, z ≤ n ∧ r = .int .i64 (z : Int) := by
  have hq : abin .quo (.int .i64 (code.length : Int)) (.int .i64 16) = some (.int .i64 ((code.length / 16 : Nat) : Int)) := by
    rw [abin_quo (by decide), Int.tdiv_eq_ediv_of_nonneg (by omega), wrap64 (by omega) (by omega)]
    rfl
  have hw : IntKind.i64.wrap (2 + ((code.length / 16 : Nat) : Int)) = ((2 + code.length / 16 : Nat) : Int) := by rw [wrap64 (by omega) (by omega)]; omega
  by_cases h : n < 2 + code.length / 16
  · refine Run.intro c75 rfl ?_
    simp (maxSteps := 4000000) (disch := omega) only [Zq, evO, vbox, wr, Zeq, if_true, if_false, Nat.reduceEqDiff, Nat.reduceAdd, Nat.reduceLeDiff, Nat.reduceSub, and_self, and_true, true_and, reduceIte, reduceCtorEq, eq_self, implies_true, forall_const, false_implies, imp_self, decide_true, decide_false, x75, hb.len_, hq, hw]
    exact ⟨Keep.refl _, n, Nat.le_refl _, rfl⟩
  · refine Run.intro c75 rfl ?_
    simp (maxSteps := 4000000) (disch := omega) only [Zq, evO, vbox, wr, Zeq, if_true, if_false, Nat.reduceEqDiff, Nat.reduceAdd, Nat.reduceLeDiff, Nat.reduceSub, and_self, and_true, true_and, reduceIte, reduceCtorEq, eq_self, implies_true, forall_const, false_implies, imp_self, decide_true, decide_false, x75, hb.len_, hq, hw]
    exact ⟨Keep.refl _, _, by omega, rfl⟩
theorem r_spec_l06DrawOps {vu vr : Value} {b : Nat} {routes : List Rt} (hb : Bts' B v code) (hl : code.length ≤ 1048576) (hc : ∀ x ∈ code, 0 ≤ x ∧ x ≤ 255) (c : Cur B v code H p) (hr : (rSlc rRoute).rd H [vr] routes) (hb1 : 1 ≤ b) (hb2 : b ≤ 24) (hrl : routes.length ≤ 12) : Run Try.prog 46 [ptr p 0, v, .agg #[vu, .int .i64 (b : Int), vr]] H fun r H' => Chg [p] H H' ∧ Cur B v code H' p ∧ ∃ ops F, (rSlc rLockOp).own H' [r] ops F ∧ F.Nodup ∧ (∀ a ∈ F, H.nxt ≤ a) ∧ ops.length ≤ 26 := by
  have lr : ∀ H : Heap, vlen H vr = some (.int .i64 routes.length, H) := fun _ => slc_len hr
  refine Run.intro c46 rfl ?_
  simp (maxSteps := 4000000) (disch := omega) only [Zq, evO, vbox, wr, Zeq, if_true, if_false, Nat.reduceEqDiff, Nat.reduceAdd, Nat.reduceLeDiff, Nat.reduceSub, and_self, and_true, true_and, reduceIte, reduceCtorEq, eq_self, implies_true, forall_const, false_implies, imp_self, decide_true, decide_false, x46]
  generalize hG0 : H.push [vu, .int .i64 (b : Int), vr] = H0
  have k0 : Keep H H0 := by rw [← hG0]; exact Keep.push _ _
  have g0 : H0.get H.nxt = some (.own [vu, .int .i64 (b : Int), vr]) := by rw [← hG0, push_get', if_pos rfl]
  have n0 : H0.nxt = H.nxt + 1 := by rw [← hG0, Zbg]
  have c0 := c.chg k0
  have pl := c.2.2.1
  have G0 := GP.new (r := rLockOp) (sz := 2) c0 rfl
  generalize hG1 : H0.push [] = H1 at *
  have n1 : H1.nxt = H0.nxt + 1 := by rw [← hG1, Zbg]
  have g1 := (G0.chg.get H.nxt (by omega) (by simp; omega)).trans g0
  clear hG0
  refine GO_call ((r_spec_l01Size (n := 24) (hb.keep G0.cur.1) hl (by omega)).mono ?_)
  rintro _ H2 ⟨k2, s, hs, rfl⟩
  have G2 := G0.keep k2
  have hw : IntKind.i64.wrap (3 + (s : Int)) = ((3 + s : Nat) : Int) := by rw [wrap64 (by omega) (by omega)]; omega
  simp (maxSteps := 4000000) (disch := omega) only [Zq, evO, vbox, wr, Zeq, if_true, if_false, Nat.reduceEqDiff, Nat.reduceAdd, Nat.reduceLeDiff, Nat.reduceSub, and_self, and_true, true_and, reduceIte, reduceCtorEq, eq_self, implies_true, forall_const, false_implies, imp_self, decide_true, decide_false, fix_nil, fix_cons, g0, g1, hw]
  refine GO_call ((r_spec_l01Below hb hl hc G2.cur (by omega) (by omega)).mono ?_)
  rintro _ H3 ⟨g3c, c3, z3, rfl, hz3⟩
  have G3 := G2.mv g3c c3
  simp (maxSteps := 4000000) (disch := omega) only [Zq, evO, vbox, wr, Zeq, if_true, if_false, Nat.reduceEqDiff, Nat.reduceAdd, Nat.reduceLeDiff, Nat.reduceSub, and_self, and_true, true_and, reduceIte, reduceCtorEq, eq_self, implies_true, forall_const, false_implies, imp_self, decide_true, decide_false, fix_nil, fix_cons, g0, g1, g3c]
  refine G_loopF [0, 5] (z3) (fun k T H4 => T 8 = .int .i64 (k : Int) ∧ ∃ w ops F, T 7 = w ∧ GP rLockOp B v code p H0 H4 w ops F ∧ ops.length + k ≤ 26) ?_ ?_
  · simp (maxSteps := 4000000) (disch := omega) only [Zq, evO, vbox, wr, Zeq, if_true, if_false, Nat.reduceEqDiff, Nat.reduceAdd, Nat.reduceLeDiff, Nat.reduceSub, and_self, and_true, true_and, reduceIte, reduceCtorEq, eq_self, implies_true, forall_const, false_implies, imp_self, decide_true, decide_false, fix_nil, fix_cons, g0, g1, g3c]
    exact ⟨.slice (some ⟨H.nxt + 1, 0, none⟩) 0 2, [], [H0.nxt], rfl, by rw [← n0]; exact G3, by simp only [List.length_nil]; omega⟩
  rintro k T H4 hT ⟨t8, w, ops, F, t7, G4, hlen⟩
  simp only [fix_nil, fix_cons, Zq, evO, vbox, wr, Zeq, if_true, if_false, Nat.reduceEqDiff, Nat.reduceAdd, Nat.reduceLeDiff, Nat.reduceSub, and_self, and_true, true_and, reduceIte, reduceCtorEq, eq_self, implies_true, forall_const, false_implies, imp_self, decide_true, decide_false] at hT
  obtain ⟨t0, t5⟩ := hT
  by_cases h0 : 0 < k
  rotate_left
  · obtain rfl : k = 0 := by omega
    obtain ⟨a1, a2⟩ := slc_cell ((rSlc rLockOp).ownrd G4.o)
    simp (maxSteps := 4000000) (disch := omega) only [Zq, evO, vbox, wr, Zeq, if_true, if_false, Nat.reduceEqDiff, Nat.reduceAdd, Nat.reduceLeDiff, Nat.reduceSub, and_self, and_true, true_and, reduceIte, reduceCtorEq, eq_self, implies_true, forall_const, false_implies, imp_self, decide_true, decide_false, fix_nil, fix_cons, g0, g1, g3c, t0, t5, t8, t7, a1, a2]
    exact ⟨k0.chg.trans G4.chg, G4.cur, ops, F, G4.o, G4.nd, fun a ha => by have := G4.fr a ha; omega, by omega⟩
  have g4 := (G4.chg.get H.nxt (by omega) (by simp; omega)).trans g0
  simp (maxSteps := 4000000) (disch := omega) only [Zq, evO, vbox, wr, Zeq, if_true, if_false, Nat.reduceEqDiff, Nat.reduceAdd, Nat.reduceLeDiff, Nat.reduceSub, and_self, and_true, true_and, reduceIte, reduceCtorEq, eq_self, implies_true, forall_const, false_implies, imp_self, decide_true, decide_false, fix_nil, fix_cons, g0, g1, g3c, t0, t5, t8, t7, g4]
  refine GO_call ((r_spec_l01Below (n := 6) hb hl hc G4.cur (by omega) (by omega)).mono ?_)
  rintro _ H5 ⟨g5c, c5, z5, rfl, hz5⟩
  have G5 := G4.mv g5c c5
  simp (maxSteps := 4000000) (disch := omega) only [Zq, evO, vbox, wr, Zeq, if_true, if_false, Nat.reduceEqDiff, Nat.reduceAdd, Nat.reduceLeDiff, Nat.reduceSub, and_self, and_true, true_and, reduceIte, reduceCtorEq, eq_self, implies_true, forall_const, false_implies, imp_self, decide_true, decide_false, fix_nil, fix_cons, g0, g1, g3c, t0, t5, t8, t7, g4, g5c]
  generalize hG6 : H5.push [.int .i64 0, .int .i64 0, .int .i64 1, .int .i64 1, .int .i64 2, .int .i64 2, .int .i64 3, .int .i64 (IntKind.i64.wrap ((z5 : Int) - 1))] = H6
  have k6 : Keep H5 H6 := by rw [← hG6]; exact Keep.push _ _
  have g6 : H6.get H5.nxt = some (.own [.int .i64 0, .int .i64 0, .int .i64 1, .int .i64 1, .int .i64 2, .int .i64 2, .int .i64 3, .int .i64 (IntKind.i64.wrap ((z5 : Int) - 1))]) := by rw [← hG6, push_get', if_pos rfl]
  have n6 : H6.nxt = H5.nxt + 1 := by rw [← hG6, Zbg]
  have G6 := G5.keep k6
  have i6 : Ints H6 (.slice (some ⟨H5.nxt, 0, none⟩) 8 1) [0, 0, 1, 1, 2, 2, 3, IntKind.i64.wrap ((z5 : Int) - 1)] := sl_own (by omega) g6 rfl
  have p5 := G5.cur.2.2.1
  refine GO_call ((r_spec_l01PickInt hb hl hc G6.cur i6 (by show H5.nxt ≠ p; omega) (by simp) (by simp)).mono ?_)
  rintro _ H7 ⟨g7c, c7, z7, hz7, rfl⟩
  generalize [0, 0, 1, 1, 2, 2, 3, IntKind.i64.wrap ((z5 : Int) - 1)].getD z7 0 = kind
  have G7 := G6.mv g7c c7
  have g7 := (G7.chg.get H.nxt (by omega) (by simp; omega)).trans g0
  clear g4 g6 hG6
  simp (maxSteps := 4000000) (disch := omega) only [Zq, evO, vbox, wr, Zeq, if_true, if_false, Nat.reduceEqDiff, Nat.reduceAdd, Nat.reduceLeDiff, Nat.reduceSub, and_self, and_true, true_and, reduceIte, reduceCtorEq, eq_self, implies_true, forall_const, false_implies, imp_self, decide_true, decide_false, fix_nil, fix_cons, g0, g1, g3c, t0, t5, t8, t7, g5c, g7c, g7]
  refine GO_call ((r_spec_l01Below (n := b) hb hl hc G7.cur (by omega) (by omega)).mono ?_)
  rintro _ H8 ⟨g8c, c8, z8, rfl, hz8⟩
  have G8 := G7.mv g8c c8
  have g8 := (G8.chg.get H.nxt (by omega) (by simp; omega)).trans g0
  have hw9 : IntKind.i64.wrap ((routes.length : Int) + 1) = ((routes.length + 1 : Nat) : Int) := Zfn (by omega)
  have hw : IntKind.i64.wrap ((k : Int) - 1) = ((k - 1 : Nat) : Int) := by rw [wrap64 (by omega) (by omega)]; omega
  by_cases hk : kind = 0 ∨ kind = 3
  · rcases hk with hk | hk
    all_goals
      simp (maxSteps := 4000000) (disch := omega) only [Zq, evO, vbox, wr, Zeq, if_true, if_false, Nat.reduceEqDiff, Nat.reduceAdd, Nat.reduceLeDiff, Nat.reduceSub, and_self, and_true, true_and, reduceIte, reduceCtorEq, eq_self, implies_true, forall_const, false_implies, imp_self, decide_true, decide_false, fix_nil, fix_cons, g0, g1, g3c, t0, t5, t8, t7, g5c, g7c, g7, g8c, g8, lr, hw9]
      refine GO_call ((r_spec_l01Below (n := routes.length + 1) hb hl hc G8.cur (by omega) (by omega)).mono ?_)
      rintro _ H9 ⟨g9c, c9, z9, rfl, hz9⟩
      have G9 := G8.mv g9c c9
      simp (maxSteps := 4000000) (disch := omega) only [Zq, evO, vbox, wr, Zeq, if_true, if_false, Nat.reduceEqDiff, Nat.reduceAdd, Nat.reduceLeDiff, Nat.reduceSub, and_self, and_true, true_and, reduceIte, reduceCtorEq, eq_self, implies_true, forall_const, false_implies, imp_self, decide_true, decide_false, fix_nil, fix_cons, g0, g1, g3c, t0, t5, t8, t7, g5c, g7c, g7, g8c, g8, g9c]
      refine GO_call ((r_spec_l01Below (n := 20) hb hl hc G9.cur (by omega) (by omega)).mono ?_)
      rintro _ H10 ⟨g10c, c10, z10, rfl, hz10⟩
      have G10 := G9.mv g10c c10
      have hq : abin .quo (.int .i64 (z10 : Int)) (.int .i64 19) = some (.int .i64 (IntKind.i64.wrap ((z10 : Int).tdiv 19))) := abin_quo (by decide)
      simp (maxSteps := 4000000) (disch := omega) only [Zq, evO, vbox, wr, Zeq, if_true, if_false, Nat.reduceEqDiff, Nat.reduceAdd, Nat.reduceLeDiff, Nat.reduceSub, and_self, and_true, true_and, reduceIte, reduceCtorEq, eq_self, implies_true, forall_const, false_implies, imp_self, decide_true, decide_false, fix_nil, fix_cons, g0, g1, g3c, t0, t5, t8, t7, g5c, g7c, g7, g8c, g8, g9c, g10c, hq]
      generalize IntKind.i64.wrap ((z9 : Int) - IntKind.i64.wrap ((z10 : Int).tdiv 19)) = what
      obtain ⟨u, H11, F', e11, G11, n11, _⟩ := G10.app (sz := 2) (bytes := 16) rfl (by omega) (row := [.int .i64 kind, .int .i64 what]) (y := (kind, what)) (G := []) ⟨rfl, rfl⟩ (by simp) (by simp) (by omega)
      simp (maxSteps := 4000000) (disch := omega) only [Zq, evO, vbox, wr, Zeq, if_true, if_false, Nat.reduceEqDiff, Nat.reduceAdd, Nat.reduceLeDiff, Nat.reduceSub, and_self, and_true, true_and, reduceIte, reduceCtorEq, eq_self, implies_true, forall_const, false_implies, imp_self, decide_true, decide_false, fix_nil, fix_cons, g0, g1, g3c, t0, t5, t8, t7, g5c, g7c, g7, g8c, g8, g9c, g10c, e11, hw]
      exact ⟨k - 1, by omega, rfl, u, _, F', rfl, G11, by simp; omega⟩
  · have h1 : ¬ kind = 0 := fun h => hk (.inl h)
    have h2 : ¬ kind = 3 := fun h => hk (.inr h)
    simp (maxSteps := 4000000) (disch := omega) only [Zq, evO, vbox, wr, Zeq, if_true, if_false, Nat.reduceEqDiff, Nat.reduceAdd, Nat.reduceLeDiff, Nat.reduceSub, and_self, and_true, true_and, reduceIte, reduceCtorEq, eq_self, implies_true, forall_const, false_implies, imp_self, decide_true, decide_false, fix_nil, fix_cons, g0, g1, g3c, t0, t5, t8, t7, g5c, g7c, g7, g8c, g8]
    obtain ⟨u, H11, F', e11, G11, n11, _⟩ := G8.app (sz := 2) (bytes := 16) rfl (by omega) (row := [.int .i64 kind, .int .i64 (z8 : Int)]) (y := (kind, (z8 : Int))) (G := []) ⟨rfl, rfl⟩ (by simp) (by simp) (by omega)
    simp (maxSteps := 4000000) (disch := omega) only [Zq, evO, vbox, wr, Zeq, if_true, if_false, Nat.reduceEqDiff, Nat.reduceAdd, Nat.reduceLeDiff, Nat.reduceSub, and_self, and_true, true_and, reduceIte, reduceCtorEq, eq_self, implies_true, forall_const, false_implies, imp_self, decide_true, decide_false, fix_nil, fix_cons, g0, g1, g3c, t0, t5, t8, t7, g5c, g7c, g7, g8c, g8, e11, hw]
    exact ⟨k - 1, by omega, rfl, u, _, F', rfl, G11, by simp; omega⟩
end
end Go.Proofs.Ythjphddodooahaa.AX
namespace Go.Proofs.Ythjphddodooahaa.AX
open Go
set_option maxRecDepth 10000
set_option linter.unusedSimpArgs false
set_option linter.unusedVariables false
section
variable {under : List Int} {b : Int} {routes : List Rt}
end
end Go.Proofs.Ythjphddodooahaa.AX
namespace Go.Proofs.Ythjphddodooahaa.AX
open Go
set_option maxRecDepth 10000
set_option maxHeartbeats 4000000
set_option linter.unusedSimpArgs false
set_option linter.unusedVariables false
/-- A locking that is read. -/
def LR (H : Heap) (x y z : Value) (L : Lo) : Prop := (rSlc rInt).rd H [x] L.1 ∧ (rSlc rBool).rd H [y] L.2.1 ∧ (rSlc rBool).rd H [z] L.2.2
theorem LR.keep {H H' : Heap} {x y z : Value} {L : Lo} (h : LR H x y z L) (k : Keep H H') : LR H' x y z L := ⟨(rSlc rInt).rdk h.1 k, (rSlc rBool).rdk h.2.1 k, (rSlc rBool).rdk h.2.2 k⟩
/-- A plant that is right, read. -/
def PR (H : Heap) (vu vr : Value) (under : List Int) (b : Int) (routes : List Rt) : Prop := (rSlc rInt).rd H [vu] under ∧ (rSlc rRoute).rd H [vr] routes ∧ plOk under b routes = true ∧ rPlant.tot (under, b, routes) ≤ 1048576
theorem PR.keep {H H' : Heap} {vu vr : Value} {under : List Int} {b : Int} {routes : List Rt} (h : PR H vu vr under b routes) (k : Keep H H') : PR H' vu vr under b routes := ⟨(rSlc rInt).rdk h.1 k, (rSlc rRoute).rdk h.2.1 k, h.2.2⟩
def LkO (under : List Int) (b : Int) (routes : List Rt) (L : Lo) : Prop := lkOk under b routes L.1 L.2.1 L.2.2 = true
theorem lk_totL {under : List Int} {b : Int} {routes : List Rt} {L : Lo} (h : LkO under b routes L) : rLocking.tot (L.1, L.2.1, L.2.2) ≤ 1048576 := Nat.le_trans (lk_small h) (by omega)
theorem do_same {H : Heap} {x y z x' y' z' : Value} {under : List Int} {b : Int} {routes : List Rt} {L : Lo} (h : LR H x y z L) (g : LR H x' y' z' L) (ok : LkO under b routes L) : Run Try.prog 19 [.agg #[x, y, z], .agg #[x', y', z']] H fun r H' => Keep H H' ∧ r = .bool true := r_laws_sameLocking h.1 h.2.1 h.2.2 g.1 g.2.1 g.2.2 (lk_totL ok)
theorem r_spec_DrawRightPlant {B H : Heap} {v : Value} {code : List Int} (hb : Bts' B v code) (hl : code.length ≤ 1048576) (hc : ∀ x ∈ code, 0 ≤ x ∧ x ≤ 255) (kB : Keep B H) : Run Try.prog 11 [v] H fun r H' => Keep H H' ∧ ∃ vu vr w under b routes ops, r = .tuple #[.agg #[vu, .int .i64 b, vr], w] ∧ PR H' vu vr under b routes ∧ 1 ≤ routes.length ∧ (rSlc rLockOp).rd H' [w] ops ∧ ops.length ≤ 26 := by
  refine Run.intro c11 rfl ?_
  simp (maxSteps := 4000000) (disch := omega) only [Zq, evO, vbox, wr, Zeq, if_true, if_false, Nat.reduceEqDiff, Nat.reduceAdd, Nat.reduceLeDiff, Nat.reduceSub, and_self, and_true, true_and, reduceIte, reduceCtorEq, eq_self, implies_true, forall_const, false_implies, imp_self, decide_true, decide_false, x11]
  generalize hG0 : H.push [.slice none 0 0, .int .i64 0, .slice none 0 0] = H0
  have k0 : Keep H H0 := by rw [← hG0]; exact Keep.push _ _
  have g0 : H0.get H.nxt = some (.own [.slice none 0 0, .int .i64 0, .slice none 0 0]) := by rw [← hG0, push_get', if_pos rfl]
  have n0 : H0.nxt = H.nxt + 1 := by rw [← hG0, Zbg]
  refine GO_call ((r_spec_l01New hb hl (kB.trans k0)).mono ?_)
  rintro _ H1 ⟨k1, p, rfl, hp, c1⟩
  have n1 := k1.nxt
  have g1 := (k1.get H.nxt (by omega)).trans g0
  simp (maxSteps := 4000000) (disch := omega) only [Zq, evO, vbox, wr, Zeq, if_true, if_false, Nat.reduceEqDiff, Nat.reduceAdd, Nat.reduceLeDiff, Nat.reduceSub, and_self, and_true, true_and, reduceIte, reduceCtorEq, eq_self, implies_true, forall_const, false_implies, imp_self, decide_true, decide_false, fix_nil, fix_cons, g0, g1]
  refine GO_call ((r_spec_l06DrawRight hb hl hc c1).mono ?_)
  rintro _ H2 ⟨g2c, c2, vu, vr, under, b, routes, Fu, Fr, rfl, ou, orr, fu, hpl, hn, ht, mb⟩
  obtain ⟨m, rfl⟩ := mb
  have n2 := g2c.nxt
  have g2 := (g2c.get H.nxt (by omega) (by simp; omega)).trans g1
  simp (maxSteps := 4000000) (disch := omega) only [Zq, evO, vbox, wr, Zeq, if_true, if_false, Nat.reduceEqDiff, Nat.reduceAdd, Nat.reduceLeDiff, Nat.reduceSub, and_self, and_true, true_and, reduceIte, reduceCtorEq, eq_self, implies_true, forall_const, false_implies, imp_self, decide_true, decide_false, fix_nil, fix_cons, g0, g1, g2c, g2]
  generalize hG3 : (H2.push [.slice none 0 0, .int .i64 0, .slice none 0 0]).set H2.nxt [vu, .int .i64 (m : Int), vr] = H3
  have k3 : Keep H2 H3 := by rw [← hG3]; repeat' (first | exact Keep.refl _ | assumption | refine Keep.push' ?_ | refine Keep.set' ?_ ?_ | refine Keep.moved' ?_ ?_ | omega)
  have g3 : H3.get H2.nxt = some (.own [vu, .int .i64 (m : Int), vr]) := by rw [← hG3, Zbi, if_pos rfl]
  have n3 : H3.nxt = H2.nxt + 1 := by rw [← hG3, Zbh, Zbg]
  have g3r := (k3.get H.nxt (by omega)).trans g2
  have c3 := c2.chg k3
  have hu3 := (rSlc rInt).ownKeep ou k3
  have hr3 := (rSlc rRoute).ownKeep orr k3
  obtain ⟨b1, b2, u16, r12, _, _⟩ := plOk_get hpl
  have pl := c2.2.2.1
  clear hG3
  simp (maxSteps := 4000000) (disch := omega) only [ZD, Zio, Zip, pre_, beq_self_eq_true, Nat.reduceBEq, Zq, evO, vbox, wr, Zeq, if_true, if_false, Nat.reduceEqDiff, Nat.reduceAdd, Nat.reduceLeDiff, Nat.reduceSub, and_self, and_true, true_and, reduceIte, reduceCtorEq, eq_self, implies_true, forall_const, false_implies, imp_self, decide_true, decide_false, fix_nil, fix_cons, g0, g1, g2c, g2, g3, g3r, G_dreg]
  refine GD_call_eq (by simp (maxSteps := 4000000) (disch := omega) only [Zq, evO, vbox, wr, Zeq, if_true, if_false, Nat.reduceEqDiff, Nat.reduceAdd, Nat.reduceLeDiff, Nat.reduceSub, and_self, and_true, true_and, reduceIte, reduceCtorEq, eq_self, implies_true, forall_const, false_implies, imp_self, decide_true, decide_false, fix_nil, fix_cons, g0, g1, g2c, g2, g3, g3r]) ((r_spec_l06DrawOps (vu := vu) (b := m) hb hl hc c3 ((rSlc rRoute).ownrd hr3) (by omega) (by omega) (by omega)).mono ?_)
  rintro w H4 ⟨g4c, c4, ops, F, oo, _, fo, ol⟩
  have n4 := g4c.nxt
  have g4 := (g4c.get H2.nxt (by omega) (by simp; omega)).trans g3
  have g4r := (g4c.get H.nxt (by omega) (by simp; omega)).trans g3r
  obtain ⟨a1, a2⟩ := slc_cell ((rSlc rLockOp).ownrd oo)
  simp (maxSteps := 4000000) (disch := omega) only [ZD, Zio, Zip, pre_, beq_self_eq_true, Nat.reduceBEq, Zq, evO, vbox, wr, Zeq, if_true, if_false, Nat.reduceEqDiff, Nat.reduceAdd, Nat.reduceLeDiff, Nat.reduceSub, and_self, and_true, true_and, reduceIte, reduceCtorEq, eq_self, implies_true, forall_const, false_implies, imp_self, decide_true, decide_false, fix_nil, fix_cons, g0, g1, g2c, g2, g3, g3r, g4c, g4, g4r, a1, a2]
  have p1 := c1.2.2.1
  have K2 : Keep H H2 := g2c.keep (k0.trans k1) (fun i hi => by simp at hi; omega)
  have K4 : Keep H H4 := g4c.keep (K2.trans k3) (fun i hi => by simp at hi; omega)
  have f1 : ∀ a ∈ Fu, H1.nxt ≤ a := fun a ha => fu a (List.mem_append_left _ ha)
  have f2 : ∀ a ∈ Fr, H1.nxt ≤ a := fun a ha => fu a (List.mem_append_right _ ha)
  have s4 : ∀ a, H1.nxt ≤ a → (H4.set H.nxt [vu, .int .i64 (m : Int), vr]).get a = H4.get a := fun a ha => by rw [Zbi, if_neg (by omega)]
  have hu4 := (rSlc rInt).ownChg hu3 g4c (fun a ha hm => by have := f1 a ha; simp at hm; omega)
  have hr4 := (rSlc rRoute).ownChg hr3 g4c (fun a ha hm => by have := f2 a ha; simp at hm; omega)
  refine ⟨K4.set' (Nat.le_refl _), vu, vr, w, under, (m : Int), routes, ops, rfl, ⟨(rSlc rInt).ownrd ((rSlc rInt).ownk hu4 (by rw [Zbh]; exact Nat.le_refl _) (fun a ha => s4 a (f1 a ha))), (rSlc rRoute).ownrd ((rSlc rRoute).ownk hr4 (by rw [Zbh]; exact Nat.le_refl _) (fun a ha => s4 a (f2 a ha))), hpl, ht⟩, hn, (rSlc rLockOp).ownrd ((rSlc rLockOp).ownk oo (by rw [Zbh]; exact Nat.le_refl _) (fun a ha => s4 a (by have := fo a ha; omega))), ol⟩
end Go.Proofs.Ythjphddodooahaa.AX
namespace Go.Proofs.Ythjphddodooahaa.AX
open Go
set_option maxRecDepth 10000
set_option maxHeartbeats 8000000
set_option linter.unusedSimpArgs false
set_option linter.unusedVariables false
def IsDoO (f : FuncId) (opf : List Int → Int → List Rt → Lo → Int → Lo × Int) : Prop := ∀ {H : Heap} {vu vr x y z : Value} {under : List Int} {b : Int} {routes : List Rt} {L : Lo} {k : Int}, PR H vu vr under b routes → LR H x y z L → LkO under b routes L →
  Run Try.prog f [.agg #[vu, .int .i64 b, vr], .agg #[x, y, z], .int .i64 k] H fun r H' => Keep H H' ∧ ∃ x' y' z' F, r = .tuple #[.agg #[x', y', z'], .int .i64 (opf under b routes L k).2] ∧ rLocking.own H' [x', y', z'] (opf under b routes L k).1 F ∧ ∀ a ∈ F, H.nxt ≤ a
theorem doO_fin {H H' : Heap} {r : Value} {p : List Int × Int × List Rt} {L : Lo} {k : Int} {opf : List Int → Int → List Rt → Lo → Int → Lo × Int} (ok : LkO p.1 p.2.1 p.2.2 L) (h : Keep H H' ∧ ∃ cs F, r = .tuple #[rLocking.val cs, .int .i64 (opR opf p L k).2] ∧ rLocking.own H' cs (opR opf p L k).1 F ∧ Fresh H H' F) : Keep H H' ∧ ∃ x' y' z' F, r = .tuple #[.agg #[x', y', z'], .int .i64 (opf p.1 p.2.1 p.2.2 L k).2] ∧ rLocking.own H' [x', y', z'] (opf p.1 p.2.1 p.2.2 L k).1 F ∧ ∀ a ∈ F, H.nxt ≤ a := by
  obtain ⟨k1, cs, F, rfl, o, f⟩ := h
  rw [opR_ok ok] at o ⊢
  obtain ⟨x, y, z, rfl, _⟩ := locking_rd (x0 := (opf p.1 p.2.1 p.2.2 L k).1.1) (x1 := (opf p.1 p.2.1 p.2.2 L k).1.2.1) (x2 := (opf p.1 p.2.1 p.2.2 L k).1.2.2) (rLocking.ownrd o)
  exact ⟨k1, x, y, z, F, rfl, o, fun a ha => (f.2 a ha).1⟩
theorem doO_Request : IsDoO 14 rqR := fun hp hL ok => (r_impl_Request hp.1 hp.2.1 hL.1 hL.2.1 hL.2.2 hp.2.2.2 (lk_totL ok)).mono fun _ _ h => doO_fin ok h
theorem doO_Occupy : IsDoO 16 occR := fun hp hL ok => (r_impl_Occupy hp.1 hp.2.1 hL.1 hL.2.1 hL.2.2 hp.2.2.2 (lk_totL ok)).mono fun _ _ h => doO_fin ok h
theorem doO_Vacate : IsDoO 18 vaR := fun hp hL ok => (r_impl_Vacate hp.1 hp.2.1 hL.1 hL.2.1 hL.2.2 hp.2.2.2 (lk_totL ok)).mono fun _ _ h => doO_fin ok h
theorem doO_Withdraw : IsDoO 17 wiR := fun hp hL ok => (r_impl_Withdraw hp.1 hp.2.1 hL.1 hL.2.1 hL.2.2 hp.2.2.2 (lk_totL ok)).mono fun _ _ h => doO_fin ok h
theorem lr_own {H : Heap} {x y z : Value} {L : Lo} {F : List Nat} (o : rLocking.own H [x, y, z] L F) : LR H x y z L := by
  obtain ⟨x', y', z', e, h1, h2, h3⟩ := locking_rd (x0 := L.1) (x1 := L.2.1) (x2 := L.2.2) (rLocking.ownrd o)
  simp only [List.cons.injEq, and_true] at e
  obtain ⟨rfl, rfl, rfl⟩ := e
  exact ⟨h1, h2, h3⟩
theorem lkOk_len {under : List Int} {b : Int} {routes : List Rt} {L : Lo} (h : LkO under b routes L) : L.1.length = under.length ∧ (L.2.2.length : Int) = b := ⟨(lkOk_get h).2.1, (lkOk_get h).2.2.2⟩
theorem pk_go {under : List Int} {b : Int} {routes : List Rt} {ops : List (Int × Int)} (hp : plOk under b routes = true) (ho : ops.length ≤ 300) : pkR (under, b, routes) ops = lkGo under b routes ops := by
  rw [pkR, if_pos ⟨hp, ho⟩]
theorem r_laws_FnLocking {H : Heap} {v0 : Value} {code : List Int} (h : Bts' H v0 code) (hc : ∀ x ∈ code, 0 ≤ x ∧ x ≤ 255) : Run Try.prog 4 [v0] H fun r _ => r = .bool true := by
  refine Run.intro c4 rfl ?_
  simp (maxSteps := 4000000) (disch := omega) only [Zq, evO, vbox, wr, Zeq, if_true, if_false, Nat.reduceEqDiff, Nat.reduceAdd, Nat.reduceLeDiff, Nat.reduceSub, and_self, and_true, true_and, reduceIte, reduceCtorEq, eq_self, implies_true, forall_const, false_implies, imp_self, decide_true, decide_false, x4]
  refine GO_call ((r_laws_big h).mono ?_)
  rintro _ H1 ⟨k1, rfl⟩
  by_cases hl : code.length ≤ 1048576
  rotate_left
  · simp (maxSteps := 4000000) (disch := omega) only [Zq, evO, vbox, wr, Zeq, if_true, if_false, Nat.reduceEqDiff, Nat.reduceAdd, Nat.reduceLeDiff, Nat.reduceSub, and_self, and_true, true_and, reduceIte, reduceCtorEq, eq_self, implies_true, forall_const, false_implies, imp_self, decide_true, decide_false, fix_nil, fix_cons]
  simp (maxSteps := 4000000) (disch := omega) only [Zq, evO, vbox, wr, Zeq, if_true, if_false, Nat.reduceEqDiff, Nat.reduceAdd, Nat.reduceLeDiff, Nat.reduceSub, and_self, and_true, true_and, reduceIte, reduceCtorEq, eq_self, implies_true, forall_const, false_implies, imp_self, decide_true, decide_false, fix_nil, fix_cons]
  refine GO_call ((r_spec_DrawRightPlant h hl hc k1).mono ?_)
  rintro _ H2 ⟨k2, vu, vr, w, under, b, routes, ops, rfl, hp, hn, hw, ho⟩
  have hpl := hp.2.2.1
  have hpk := pk_go (ops := ops) hpl (by omega)
  obtain ⟨b1, b2, u16, r12, hun, _⟩ := plOk_get hpl
  have lw : ∀ H : Heap, vlen H w = some (.int .i64 ops.length, H) := fun _ => slc_len hw
  have lu : ∀ H : Heap, vlen H vu = some (.int .i64 under.length, H) := fun _ => slc_len hp.1
  simp (maxSteps := 4000000) (disch := omega) only [Zq, evO, vbox, wr, Zeq, if_true, if_false, Nat.reduceEqDiff, Nat.reduceAdd, Nat.reduceLeDiff, Nat.reduceSub, and_self, and_true, true_and, reduceIte, reduceCtorEq, eq_self, implies_true, forall_const, false_implies, imp_self, decide_true, decide_false, fix_nil, fix_cons]
  generalize hG3 : (H2.push [.slice none 0 0, .int .i64 0, .slice none 0 0]).set H2.nxt [vu, .int .i64 b, vr] = H3
  have k3 : Keep H2 H3 := by rw [← hG3]; repeat' (first | exact Keep.refl _ | assumption | refine Keep.push' ?_ | refine Keep.set' ?_ ?_ | refine Keep.moved' ?_ ?_ | omega)
  have g3 : H3.get H2.nxt = some (.own [vu, .int .i64 b, vr]) := by rw [← hG3, Zbi, if_pos rfl]
  have n3 : H3.nxt = H2.nxt + 1 := by rw [← hG3, Zbh, Zbg]
  clear hG3
  refine GO_call ((r_impl_Bare (hp.keep k3).1 (hp.keep k3).2.1 hp.2.2.2 hpl).mono ?_)
  rintro _ H4 ⟨k4, cs4, F4, rfl, o4, fr4⟩
  have n4 := k4.nxt
  have g4 := (k4.get (H2.nxt) (by omega)).trans g3
  obtain ⟨x1, y1, z1, rfl, _⟩ := locking_rd (x0 := (bareR under b routes).1) (x1 := (bareR under b routes).2.1) (x2 := (bareR under b routes).2.2) (rLocking.ownrd o4)
  have lt4 := rLocking.ownlt o4
  simp only [locking_val]
  simp (maxSteps := 4000000) (disch := omega) only [Zq, evO, vbox, wr, Zeq, if_true, if_false, Nat.reduceEqDiff, Nat.reduceAdd, Nat.reduceLeDiff, Nat.reduceSub, and_self, and_true, true_and, reduceIte, reduceCtorEq, eq_self, implies_true, forall_const, false_implies, imp_self, decide_true, decide_false, fix_nil, fix_cons, g3, g4]
  generalize hG5 : (H4.push [.slice none 0 0, .slice none 0 0, .slice none 0 0]).set H4.nxt [x1, y1, z1] = H5
  have k5 : Keep H4 H5 := by rw [← hG5]; repeat' (first | exact Keep.refl _ | assumption | refine Keep.push' ?_ | refine Keep.set' ?_ ?_ | refine Keep.moved' ?_ ?_ | omega)
  have g5 : H5.get H4.nxt = some (.own [x1, y1, z1]) := by rw [← hG5, Zbi, if_pos rfl]
  have n5 : H5.nxt = H4.nxt + 1 := by rw [← hG5, Zbh, Zbg]
  have g5p := (k5.get H2.nxt (by omega)).trans g4
  have k25 := k3.trans (k4.trans k5)
  clear hG5 g3 g4
  refine GO_call ((r_impl_PlayLock (hp.keep k25).1 (hp.keep k25).2.1 ((rSlc rLockOp).rdk hw k25) hp.2.2.2 (by omega)).mono ?_)
  rintro _ H6 ⟨k6, cs6, F6, cs6', Fc, rfl, o6, fr6, oc6, frc, _⟩
  have n6 := k6.nxt
  have g6 := (k6.get (H4.nxt) (by omega)).trans g5
  have g6p := (k6.get (H2.nxt) (by omega)).trans g5p
  rw [hpk] at o6 oc6
  obtain ⟨x2, y2, z2, rfl, _⟩ := locking_rd (x0 := (lkGo under b routes ops).1.1) (x1 := (lkGo under b routes ops).1.2.1) (x2 := (lkGo under b routes ops).1.2.2) (rLocking.ownrd o6)
  obtain ⟨cv, rfl⟩ := slc_one ((rSlc rInt).ownrd oc6)
  simp only [locking_val, slc_val]
  simp (maxSteps := 4000000) (disch := omega) only [Zq, evO, vbox, wr, Zeq, if_true, if_false, Nat.reduceEqDiff, Nat.reduceAdd, Nat.reduceLeDiff, Nat.reduceSub, and_self, and_true, true_and, reduceIte, reduceCtorEq, eq_self, implies_true, forall_const, false_implies, imp_self, decide_true, decide_false, fix_nil, fix_cons, g5, g5p, g6, g6p]
  generalize hG7 : (H6.push [.slice none 0 0, .slice none 0 0, .slice none 0 0]).set H6.nxt [x2, y2, z2] = H7
  have k7 : Keep H6 H7 := by rw [← hG7]; repeat' (first | exact Keep.refl _ | assumption | refine Keep.push' ?_ | refine Keep.set' ?_ ?_ | refine Keep.moved' ?_ ?_ | omega)
  have n7 := k7.nxt
  have g7 := (k7.get H4.nxt (by omega)).trans g6
  have g7p := (k7.get H2.nxt (by omega)).trans g6p
  have k27 := k25.trans (k6.trans k7)
  have o7 := rLocking.ownKeep o4 (k5.trans (k6.trans k7))
  clear hG7 g5 g5p g6 g6p
  refine GO_call ((r_impl_LockingOk (hp.keep k27).1 (hp.keep k27).2.1 (lr_own o7).1 (lr_own o7).2.1 (lr_own o7).2.2 hp.2.2.2 (lk_totL (bareR_ok hpl))).mono ?_)
  rintro _ H8 ⟨k8, rfl⟩
  have n8 := k8.nxt
  have g8 := (k8.get (H4.nxt) (by omega)).trans g7
  have g8p := (k8.get (H2.nxt) (by omega)).trans g7p
  have k28 := k27.trans k8
  have o8 := rLocking.ownKeep o7 k8
  have oc8 := (rSlc rInt).ownKeep oc6 (k7.trans k8)
  have lenA := (lkGo_ok (ops := ops) hpl ops.length (Nat.le_refl _)).2
  rw [List.take_length] at lenA
  have lc : ∀ H : Heap, vlen H cv = some (.int .i64 ops.length, H) := fun _ => by rw [← lenA]; exact slc_len ((rSlc rInt).ownrd oc6)
  have okB := bareR_ok hpl
  simp (maxSteps := 4000000) (disch := omega) only [Zq, evO, vbox, wr, Zeq, if_true, if_false, Nat.reduceEqDiff, Nat.reduceAdd, Nat.reduceLeDiff, Nat.reduceSub, and_self, and_true, true_and, reduceIte, reduceCtorEq, eq_self, implies_true, forall_const, false_implies, imp_self, decide_true, decide_false, fix_nil, fix_cons, g7, g7p, g8, g8p, okB, lc, lw]
  first | refine G_fix [3, 4, 5, 7, 8] ?_ | refine GO_fix [3, 4, 5, 7, 8] ?_ | refine cK_fix [3, 4, 5, 7, 8] ?_
  intro T hT
  simp only [fix_nil, fix_cons, Zq, evO, vbox, wr, Zeq, if_true, if_false, Nat.reduceEqDiff, Nat.reduceAdd, Nat.reduceLeDiff, Nat.reduceSub, and_self, and_true, true_and, reduceIte, reduceCtorEq, eq_self, implies_true, forall_const, false_implies, imp_self, decide_true, decide_false] at hT
  obtain ⟨t3, t4, t5, t7, t8⟩ := hT
  refine G_forF [3, 4, 5, 7] (ops.length) (fun i T H9 => T 8 = .int .i64 (i : Int) ∧ Chg [H4.nxt] H8 H9 ∧ ∃ x y z F, H9.get H4.nxt = some (.own [x, y, z]) ∧ rLocking.own H9 [x, y, z] (lkGo under b routes (ops.take i)).1 F ∧ H4.nxt ∉ F) 0 (Nat.zero_le _) ?_ ?_
  · simp (maxSteps := 4000000) (disch := omega) only [Zq, evO, vbox, wr, Zeq, if_true, if_false, Nat.reduceEqDiff, Nat.reduceAdd, Nat.reduceLeDiff, Nat.reduceSub, and_self, and_true, true_and, reduceIte, reduceCtorEq, eq_self, implies_true, forall_const, false_implies, imp_self, decide_true, decide_false, fix_nil, fix_cons, g7, g7p, g8, g8p, t3, t4, t5, t7, t8]
    exact ⟨Chg.refl _ _, x1, y1, z1, F4, rfl, o8, fun hm => by have := lt4 _ hm; omega⟩
  rintro i T H9 hi hT ⟨t8, c9, x, y, z, F9, g9, o9, f9⟩
  simp only [fix_nil, fix_cons, Zq, evO, vbox, wr, Zeq, if_true, if_false, Nat.reduceEqDiff, Nat.reduceAdd, Nat.reduceLeDiff, Nat.reduceSub, and_self, and_true, true_and, reduceIte, reduceCtorEq, eq_self, implies_true, forall_const, false_implies, imp_self, decide_true, decide_false, t3, t4, t5, t7, t8] at hT
  obtain ⟨t3, t4, t5, t7⟩ := hT
  have n9 := c9.nxt
  have g9p := (c9.get H2.nxt (by omega) (by simp; omega)).trans g8p
  have k29 : Keep H2 H9 := c9.keep k28 (fun a ha => by simp at ha; omega)
  have oc9 := (rSlc rInt).ownChg oc8 c9 (fun a ha hm => by have := frc.2 a ha; simp at hm; omega)
  have okI := (lkGo_ok (ops := ops) hpl i hi).1
  by_cases hin : i < ops.length
  rotate_left
  · obtain rfl : i = ops.length := by omega
    rw [List.take_length] at o9 okI
    simp (maxSteps := 4000000) (disch := omega) only [Zq, evO, vbox, wr, Zeq, if_true, if_false, Nat.reduceEqDiff, Nat.reduceAdd, Nat.reduceLeDiff, Nat.reduceSub, and_self, and_true, true_and, reduceIte, reduceCtorEq, eq_self, implies_true, forall_const, false_implies, imp_self, decide_true, decide_false, fix_nil, fix_cons, g7, g7p, g8, g8p, t3, t4, t5, t7, t8, g9, g9p, lw]
    refine GO_call ((r_spec_PlayLock (hp.keep k29).1 (hp.keep k29).2.1 ((rSlc rLockOp).rdk hw k29) hp.2.2.2 (by omega)).mono ?_)
    rintro _ H10 ⟨k10, csA, FA, csA', FcA, rfl, oA, frA, ocA, frcA, _⟩
    have n10 := k10.nxt
    have g10 := (k10.get (H4.nxt) (by omega)).trans g9
    rw [hpk] at oA ocA
    obtain ⟨x3, y3, z3, rfl, _⟩ := locking_rd (x0 := (lkGo under b routes ops).1.1) (x1 := (lkGo under b routes ops).1.2.1) (x2 := (lkGo under b routes ops).1.2.2) (rLocking.ownrd oA)
    obtain ⟨cv2, rfl⟩ := slc_one ((rSlc rInt).ownrd ocA)
    simp only [locking_val, slc_val]
    simp (maxSteps := 4000000) (disch := omega) only [Zq, evO, vbox, wr, Zeq, if_true, if_false, Nat.reduceEqDiff, Nat.reduceAdd, Nat.reduceLeDiff, Nat.reduceSub, and_self, and_true, true_and, reduceIte, reduceCtorEq, eq_self, implies_true, forall_const, false_implies, imp_self, decide_true, decide_false, fix_nil, fix_cons, g7, g7p, g8, g8p, t3, t4, t5, t7, t8, g9, g9p, g10]
    generalize hG11 : (H10.push [.slice none 0 0, .slice none 0 0, .slice none 0 0]).set H10.nxt [x3, y3, z3] = H11
    have k11 : Keep H10 H11 := by rw [← hG11]; repeat' (first | exact Keep.refl _ | assumption | refine Keep.push' ?_ | refine Keep.set' ?_ ?_ | refine Keep.moved' ?_ ?_ | omega)
    have g11 : H11.get H10.nxt = some (.own [x3, y3, z3]) := by rw [← hG11, Zbi, if_pos rfl]
    have n11 : H11.nxt = H10.nxt + 1 := by rw [← hG11, Zbh, Zbg]
    have g11l := (k11.get H4.nxt (by omega)).trans g10
    have k9B := k10.trans k11
    refine GO_call ((do_same (lr_own (rLocking.ownKeep oA k11)) (lr_own (rLocking.ownKeep o9 k9B)) okI).mono ?_)
    rintro _ H12 ⟨k12, rfl⟩
    have n12 := k12.nxt
    simp (maxSteps := 4000000) (disch := omega) only [Zq, evO, vbox, wr, Zeq, if_true, if_false, Nat.reduceEqDiff, Nat.reduceAdd, Nat.reduceLeDiff, Nat.reduceSub, and_self, and_true, true_and, reduceIte, reduceCtorEq, eq_self, implies_true, forall_const, false_implies, imp_self, decide_true, decide_false, fix_nil, fix_cons, g7, g7p, g8, g8p, t3, t4, t5, t7, t8, g9, g9p, g10, g11, g11l]
    refine GO_call ((r_laws_sameInts ((rSlc rInt).ownrd ((rSlc rInt).ownKeep ocA (k11.trans k12))) ((rSlc rInt).ownrd ((rSlc rInt).ownKeep oc9 (k9B.trans k12))) (by omega)).mono ?_)
    rintro _ H13 ⟨k13, rfl⟩
    have n13 := k13.nxt
    simp (maxSteps := 4000000) (disch := omega) only [Zq, evO, vbox, wr, Zeq, if_true, if_false, Nat.reduceEqDiff, Nat.reduceAdd, Nat.reduceLeDiff, Nat.reduceSub, and_self, and_true, true_and, reduceIte, reduceCtorEq, eq_self, implies_true, forall_const, false_implies, imp_self, decide_true, decide_false, fix_nil, fix_cons, g7, g7p, g8, g8p, t3, t4, t5, t7, t8, g9, g9p, g10, g11, g11l]
  have ixo := fun H0 : Heap => slc_idx (r := rLockOp) (H1 := H0) (sz := 2) (i := i) (k := .i64) rfl hw hin
  have fxo := fun (H0 : Heap) (o off : Nat) => slc_fad (r := rLockOp) (H1 := H0) (sz := 2) (o := o) (off := off) rfl hw hin
  have kx : Keep H9 ((H9.push [.slice none 0 0, .slice none 0 0, .slice none 0 0]).set H9.nxt [.slice none 0 0, .slice none 0 0, .slice none 0 0]) := by repeat' (first | exact Keep.refl _ | assumption | refine Keep.push' ?_ | refine Keep.set' ?_ ?_ | refine Keep.moved' ?_ ?_ | omega)
  have e1 := (op_el ((rSlc rLockOp).rdk hw (k29.trans kx)) hin).2.1
  simp (maxSteps := 4000000) (disch := omega) only [Zq, evO, vbox, wr, Zeq, if_true, if_false, Nat.reduceEqDiff, Nat.reduceAdd, Nat.reduceLeDiff, Nat.reduceSub, and_self, and_true, true_and, reduceIte, reduceCtorEq, eq_self, implies_true, forall_const, false_implies, imp_self, decide_true, decide_false, fix_nil, fix_cons, g7, g7p, g8, g8p, t3, t4, t5, t7, t8, g9, g9p, lw, ixo, fxo, e1]
  clear e1 kx
  generalize hGA : (H9.push [.slice none 0 0, .slice none 0 0, .slice none 0 0]).set H9.nxt [.slice none 0 0, .slice none 0 0, .slice none 0 0] = HA
  have kA : Keep H9 HA := by rw [← hGA]; repeat' (first | exact Keep.refl _ | assumption | refine Keep.push' ?_ | refine Keep.set' ?_ ?_ | refine Keep.moved' ?_ ?_ | omega)
  have gA : HA.get H9.nxt = some (.own [.slice none 0 0, .slice none 0 0, .slice none 0 0]) := by rw [← hGA, Zbi, if_pos rfl]
  have nA : HA.nxt = H9.nxt + 1 := by rw [← hGA, Zbh, Zbg]
  have gAl := (kA.get H4.nxt (by omega)).trans g9
  have gAp := (kA.get H2.nxt (by omega)).trans g9p
  have k2A := k29.trans kA
  have e2 := (op_el ((rSlc rLockOp).rdk hw k2A) hin).2.2
  obtain ⟨L, hL⟩ : ∃ L, L = (lkGo under b routes (ops.take i)).1 := ⟨_, rfl⟩
  obtain ⟨R, hR⟩ : ∃ R, R = lkDo under b routes L ops[i] := ⟨_, rfl⟩
  rw [← hL] at o9 okI
  have oA := rLocking.ownKeep o9 kA
  have c3 := t3
  have c4 := t4
  have c5 := t5
  have c7 := t7
  have c8 := t8
  clear hGA
  have meet : ∀ {H7 : Heap} {x6 y6 z6 : Value} {F6 : List Nat}, Keep HA H7 → rLocking.own H7 [x6, y6, z6] R.1 F6 → (∀ a ∈ F6, a ∈ F9 ∨ HA.nxt ≤ a) → Keep H9 (H7.set H9.nxt [x6, y6, z6]) ∧ H9.nxt < H7.nxt ∧ ∃ x7 y7 z7 F7, some (Obj.own [x6, y6, z6]) = some (Obj.own [x7, y7, z7]) ∧ rLocking.own (H7.set H9.nxt [x6, y6, z6]) [x7, y7, z7] R.1 F7 ∧ ∀ a ∈ F7, a ∈ F9 ∨ H9.nxt < a := by
    intro H7 x6 y6 z6 F6 k7 o7 f7
    have n7 := k7.nxt
    have lt9 := rLocking.ownlt o9
    refine ⟨(kA.trans k7).set' (by omega), by omega, x6, y6, z6, F6, rfl, rLocking.ownk o7 (by rw [Zbh]; omega) (fun a ha => ?_), fun a ha => ?_⟩
    · rw [Zbi, if_neg]
      rcases f7 a ha with h1 | h1
      · have := lt9 a h1; omega
      · omega
    · rcases f7 a ha with h1 | h1
      · exact .inl h1
      · exact .inr (by omega)
  refine cK_cutB (fun T' H' => T' 3 = ptr H2.nxt 0 ∧ T' 4 = w ∧ T' 5 = ptr H4.nxt 0 ∧ T' 7 = cv ∧ T' 8 = .int .i64 (i : Int) ∧ T' 9 = ptr H9.nxt 0 ∧ T' 10 = .int .i64 R.2 ∧ Keep H9 H' ∧ H9.nxt < H'.nxt ∧ ∃ x7 y7 z7 F7, H'.get H9.nxt = some (.own [x7, y7, z7]) ∧ rLocking.own H' [x7, y7, z7] R.1 F7 ∧ ∀ a ∈ F7, a ∈ F9 ∨ H9.nxt < a) ?_ ?_
  · by_cases d0 : ops[i].1 = 0
    · have hR' : R = rqR under b routes L ops[i].2 := by rw [hR, lkDo]; exact if_pos d0
      simp (maxSteps := 4000000) (disch := omega) only [Zq, evO, vbox, wr, Zeq, if_true, if_false, Nat.reduceEqDiff, Nat.reduceAdd, Nat.reduceLeDiff, Nat.reduceSub, and_self, and_true, true_and, reduceIte, reduceCtorEq, eq_self, implies_true, forall_const, false_implies, imp_self, decide_true, decide_false, fix_nil, fix_cons, g7, g7p, g8, g8p, t3, t4, t5, t7, t8, g9, g9p, gA, Zfl d0]
      refine G_tame rfl ?_
      simp (maxSteps := 4000000) (disch := omega) only [Zq, evO, vbox, wr, Zeq, if_true, if_false, Nat.reduceEqDiff, Nat.reduceAdd, Nat.reduceLeDiff, Nat.reduceSub, and_self, and_true, true_and, reduceIte, reduceCtorEq, eq_self, implies_true, forall_const, false_implies, imp_self, decide_true, decide_false, fix_nil, fix_cons, g7, g7p, g8, g8p, t3, t4, t5, t7, t8, g9, g9p, gA, ixo, fxo, e2, gAl, gAp]
      refine GO_call_eq (by (simp (maxSteps := 4000000) (disch := omega) only [Zq, evO, vbox, wr, Zeq, if_true, if_false, Nat.reduceEqDiff, Nat.reduceAdd, Nat.reduceLeDiff, Nat.reduceSub, and_self, and_true, true_and, reduceIte, reduceCtorEq, eq_self, implies_true, forall_const, false_implies, imp_self, decide_true, decide_false, fix_nil, fix_cons, g7, g7p, g8, g8p, t3, t4, t5, t7, t8, g9, g9p, gA]) <;> rfl) ((doO_Request (k := ops[i].2) (hp.keep k2A) (lr_own oA) okI).mono ?_)
      rintro _ H11 ⟨k11, x6, y6, z6, F6, rfl, o6, f6⟩
      have n11 := k11.nxt
      have g11 := (k11.get H9.nxt (by omega)).trans gA
      rw [← hR'] at o6 ⊢
      simp (maxSteps := 4000000) (disch := omega) only [Zq, evO, vbox, wr, Zeq, if_true, if_false, Nat.reduceEqDiff, Nat.reduceAdd, Nat.reduceLeDiff, Nat.reduceSub, and_self, and_true, true_and, reduceIte, reduceCtorEq, eq_self, implies_true, forall_const, false_implies, imp_self, decide_true, decide_false, fix_nil, fix_cons, g7, g7p, g8, g8p, t3, t4, t5, t7, t8, g9, g9p, gA, g11]
      exact meet k11 o6 (fun a ha => .inr (f6 a ha))
    by_cases d1 : ops[i].1 = 1
    · have hR' : R = occR under b routes L ops[i].2 := by rw [hR, lkDo]; rw [if_neg d0]; exact if_pos d1
      simp (maxSteps := 4000000) (disch := omega) only [Zq, evO, vbox, wr, Zeq, if_true, if_false, Nat.reduceEqDiff, Nat.reduceAdd, Nat.reduceLeDiff, Nat.reduceSub, and_self, and_true, true_and, reduceIte, reduceCtorEq, eq_self, implies_true, forall_const, false_implies, imp_self, decide_true, decide_false, fix_nil, fix_cons, g7, g7p, g8, g8p, t3, t4, t5, t7, t8, g9, g9p, gA, Zfm d0, Zfl d1]
      refine G_tame rfl ?_
      simp (maxSteps := 4000000) (disch := omega) only [Zq, evO, vbox, wr, Zeq, if_true, if_false, Nat.reduceEqDiff, Nat.reduceAdd, Nat.reduceLeDiff, Nat.reduceSub, and_self, and_true, true_and, reduceIte, reduceCtorEq, eq_self, implies_true, forall_const, false_implies, imp_self, decide_true, decide_false, fix_nil, fix_cons, g7, g7p, g8, g8p, t3, t4, t5, t7, t8, g9, g9p, gA, ixo, fxo, e2, gAl, gAp]
      refine GO_call_eq (by (simp (maxSteps := 4000000) (disch := omega) only [Zq, evO, vbox, wr, Zeq, if_true, if_false, Nat.reduceEqDiff, Nat.reduceAdd, Nat.reduceLeDiff, Nat.reduceSub, and_self, and_true, true_and, reduceIte, reduceCtorEq, eq_self, implies_true, forall_const, false_implies, imp_self, decide_true, decide_false, fix_nil, fix_cons, g7, g7p, g8, g8p, t3, t4, t5, t7, t8, g9, g9p, gA]) <;> rfl) ((doO_Occupy (k := ops[i].2) (hp.keep k2A) (lr_own oA) okI).mono ?_)
      rintro _ H11 ⟨k11, x6, y6, z6, F6, rfl, o6, f6⟩
      have n11 := k11.nxt
      have g11 := (k11.get H9.nxt (by omega)).trans gA
      rw [← hR'] at o6 ⊢
      simp (maxSteps := 4000000) (disch := omega) only [Zq, evO, vbox, wr, Zeq, if_true, if_false, Nat.reduceEqDiff, Nat.reduceAdd, Nat.reduceLeDiff, Nat.reduceSub, and_self, and_true, true_and, reduceIte, reduceCtorEq, eq_self, implies_true, forall_const, false_implies, imp_self, decide_true, decide_false, fix_nil, fix_cons, g7, g7p, g8, g8p, t3, t4, t5, t7, t8, g9, g9p, gA, g11]
      exact meet k11 o6 (fun a ha => .inr (f6 a ha))
    by_cases d2 : ops[i].1 = 2
    · have hR' : R = vaR under b routes L ops[i].2 := by rw [hR, lkDo]; rw [if_neg d0]; rw [if_neg d1]; exact if_pos d2
      simp (maxSteps := 4000000) (disch := omega) only [Zq, evO, vbox, wr, Zeq, if_true, if_false, Nat.reduceEqDiff, Nat.reduceAdd, Nat.reduceLeDiff, Nat.reduceSub, and_self, and_true, true_and, reduceIte, reduceCtorEq, eq_self, implies_true, forall_const, false_implies, imp_self, decide_true, decide_false, fix_nil, fix_cons, g7, g7p, g8, g8p, t3, t4, t5, t7, t8, g9, g9p, gA, Zfm d0, Zfm d1, Zfl d2]
      refine G_tame rfl ?_
      simp (maxSteps := 4000000) (disch := omega) only [Zq, evO, vbox, wr, Zeq, if_true, if_false, Nat.reduceEqDiff, Nat.reduceAdd, Nat.reduceLeDiff, Nat.reduceSub, and_self, and_true, true_and, reduceIte, reduceCtorEq, eq_self, implies_true, forall_const, false_implies, imp_self, decide_true, decide_false, fix_nil, fix_cons, g7, g7p, g8, g8p, t3, t4, t5, t7, t8, g9, g9p, gA, ixo, fxo, e2, gAl, gAp]
      refine GO_call_eq (by (simp (maxSteps := 4000000) (disch := omega) only [Zq, evO, vbox, wr, Zeq, if_true, if_false, Nat.reduceEqDiff, Nat.reduceAdd, Nat.reduceLeDiff, Nat.reduceSub, and_self, and_true, true_and, reduceIte, reduceCtorEq, eq_self, implies_true, forall_const, false_implies, imp_self, decide_true, decide_false, fix_nil, fix_cons, g7, g7p, g8, g8p, t3, t4, t5, t7, t8, g9, g9p, gA]) <;> rfl) ((doO_Vacate (k := ops[i].2) (hp.keep k2A) (lr_own oA) okI).mono ?_)
      rintro _ H11 ⟨k11, x6, y6, z6, F6, rfl, o6, f6⟩
      have n11 := k11.nxt
      have g11 := (k11.get H9.nxt (by omega)).trans gA
      rw [← hR'] at o6 ⊢
      simp (maxSteps := 4000000) (disch := omega) only [Zq, evO, vbox, wr, Zeq, if_true, if_false, Nat.reduceEqDiff, Nat.reduceAdd, Nat.reduceLeDiff, Nat.reduceSub, and_self, and_true, true_and, reduceIte, reduceCtorEq, eq_self, implies_true, forall_const, false_implies, imp_self, decide_true, decide_false, fix_nil, fix_cons, g7, g7p, g8, g8p, t3, t4, t5, t7, t8, g9, g9p, gA, g11]
      exact meet k11 o6 (fun a ha => .inr (f6 a ha))
    by_cases d3 : ops[i].1 = 3
    · have hR' : R = wiR under b routes L ops[i].2 := by rw [hR, lkDo]; rw [if_neg d0]; rw [if_neg d1]; rw [if_neg d2]; exact if_pos d3
      simp (maxSteps := 4000000) (disch := omega) only [Zq, evO, vbox, wr, Zeq, if_true, if_false, Nat.reduceEqDiff, Nat.reduceAdd, Nat.reduceLeDiff, Nat.reduceSub, and_self, and_true, true_and, reduceIte, reduceCtorEq, eq_self, implies_true, forall_const, false_implies, imp_self, decide_true, decide_false, fix_nil, fix_cons, g7, g7p, g8, g8p, t3, t4, t5, t7, t8, g9, g9p, gA, Zfm d0, Zfm d1, Zfm d2, Zfl d3]
      refine G_tame rfl ?_
      simp (maxSteps := 4000000) (disch := omega) only [Zq, evO, vbox, wr, Zeq, if_true, if_false, Nat.reduceEqDiff, Nat.reduceAdd, Nat.reduceLeDiff, Nat.reduceSub, and_self, and_true, true_and, reduceIte, reduceCtorEq, eq_self, implies_true, forall_const, false_implies, imp_self, decide_true, decide_false, fix_nil, fix_cons, g7, g7p, g8, g8p, t3, t4, t5, t7, t8, g9, g9p, gA, ixo, fxo, e2, gAl, gAp]
      refine GO_call_eq (by (simp (maxSteps := 4000000) (disch := omega) only [Zq, evO, vbox, wr, Zeq, if_true, if_false, Nat.reduceEqDiff, Nat.reduceAdd, Nat.reduceLeDiff, Nat.reduceSub, and_self, and_true, true_and, reduceIte, reduceCtorEq, eq_self, implies_true, forall_const, false_implies, imp_self, decide_true, decide_false, fix_nil, fix_cons, g7, g7p, g8, g8p, t3, t4, t5, t7, t8, g9, g9p, gA]) <;> rfl) ((doO_Withdraw (k := ops[i].2) (hp.keep k2A) (lr_own oA) okI).mono ?_)
      rintro _ H11 ⟨k11, x6, y6, z6, F6, rfl, o6, f6⟩
      have n11 := k11.nxt
      have g11 := (k11.get H9.nxt (by omega)).trans gA
      rw [← hR'] at o6 ⊢
      simp (maxSteps := 4000000) (disch := omega) only [Zq, evO, vbox, wr, Zeq, if_true, if_false, Nat.reduceEqDiff, Nat.reduceAdd, Nat.reduceLeDiff, Nat.reduceSub, and_self, and_true, true_and, reduceIte, reduceCtorEq, eq_self, implies_true, forall_const, false_implies, imp_self, decide_true, decide_false, fix_nil, fix_cons, g7, g7p, g8, g8p, t3, t4, t5, t7, t8, g9, g9p, gA, g11]
      exact meet k11 o6 (fun a ha => .inr (f6 a ha))
    have hR' : R = (L, 1) := by rw [hR, lkDo, if_neg d0, if_neg d1, if_neg d2, if_neg d3]
    simp (maxSteps := 4000000) (disch := omega) only [Zq, evO, vbox, wr, Zeq, if_true, if_false, Nat.reduceEqDiff, Nat.reduceAdd, Nat.reduceLeDiff, Nat.reduceSub, and_self, and_true, true_and, reduceIte, reduceCtorEq, eq_self, implies_true, forall_const, false_implies, imp_self, decide_true, decide_false, fix_nil, fix_cons, g7, g7p, g8, g8p, t3, t4, t5, t7, t8, g9, g9p, gA, Zfm d0, Zfm d1, Zfm d2, Zfm d3, gAl, gAp]
    rw [hR'] at meet ⊢
    exact ⟨rfl, meet (Keep.refl _) oA (fun a ha => .inl ha)⟩
  rintro T1 H10 ⟨t3, t4, t5, t7, t8, t9, t10, k10, n10, x7, y7, z7, F7, g10, o10, f10⟩
  clear meet e2 gA gAl gAp oA
  have k2B : Keep H2 H10 := k29.trans k10
  have gBp := (k10.get H2.nxt (by omega)).trans g9p
  have gBl := (k10.get H4.nxt (by omega)).trans g9
  have hcd := (lkGo_code (ops := ops) hpl hin ops.length (by omega) (Nat.le_refl _))
  rw [List.take_length] at hcd
  rw [← hL, ← hR] at hcd
  have okR : lkOk under b routes R.1.1 R.1.2.1 R.1.2.2 = true := by rw [hR]; exact lkDo_ok okI
  have calm := do_calm (o := ops[i]) okI
  rw [← hR] at calm
  have l10 := lr_own o10
  have lnR := (lkOk_len okR).1
  have lnL := lkOk_len okI
  have okI' := okI
  have hcl : i < (lkGo under b routes ops).2.length := by omega
  have hci := (ints_of ((rSlc rInt).ownrd oc9)).keep k10
  have cix := fun H1 : Heap => IntsK.idx (k' := .i64) (H1 := H1) hci hcl
  have cld := IntsK.ld hci hcl
  rw [hcd] at cld
  simp (maxSteps := 4000000) (disch := omega) only [Zq, evO, vbox, wr, Zeq, if_true, if_false, Nat.reduceEqDiff, Nat.reduceAdd, Nat.reduceLeDiff, Nat.reduceSub, and_self, and_true, true_and, reduceIte, reduceCtorEq, eq_self, implies_true, forall_const, false_implies, imp_self, decide_true, decide_false, fix_nil, fix_cons, g7, g7p, g8, g8p, t3, t4, t5, t7, t8, g9, g9p, t9, t10, g10, cix, cld, gBp, gBl]
  refine GO_call ((r_impl_LockingOk (hp.keep k2B).1 (hp.keep k2B).2.1 l10.1 l10.2.1 l10.2.2 hp.2.2.2 (lk_totL okR)).mono ?_)
  rintro _ H11 ⟨k11, rfl⟩
  have n11 := k11.nxt
  have g11 := (k11.get (H9.nxt) (by omega)).trans g10
  have gCl := (k11.get (H4.nxt) (by omega)).trans gBl
  have gCp := (k11.get (H2.nxt) (by omega)).trans gBp
  have lx : ∀ H : Heap, vlen H x7 = some (.int .i64 under.length, H) := fun _ => by rw [← lnR]; exact slc_len l10.1
  have lL := lr_own o9
  have lxL : ∀ H : Heap, vlen H x = some (.int .i64 under.length, H) := fun _ => by rw [← lnL.1]; exact slc_len lL.1
  have lzL : ∀ H : Heap, vlen H z = some (.int .i64 b, H) := fun _ => by rw [← lnL.2]; exact slc_len lL.2.2
  refine GO_cut (fun T' H' => T' 3 = ptr H2.nxt 0 ∧ T' 4 = w ∧ T' 5 = ptr H4.nxt 0 ∧ T' 7 = cv ∧ T' 8 = .int .i64 (i : Int) ∧ T' 9 = ptr H9.nxt 0 ∧ T' 152 = .bool false ∧ Keep H11 H') ?_ ?_
  · by_cases e0 : R.2 = 0
    · rw [e0]
      simp (maxSteps := 4000000) (disch := omega) only [Zq, evO, vbox, wr, Zeq, if_true, if_false, Nat.reduceEqDiff, Nat.reduceAdd, Nat.reduceLeDiff, Nat.reduceSub, and_self, and_true, true_and, reduceIte, reduceCtorEq, eq_self, implies_true, forall_const, false_implies, imp_self, decide_true, decide_false, fix_nil, fix_cons, g7, g7p, g8, g8p, t3, t4, t5, t7, t8, g9, g9p, t9, t10, g10, g11, gCl, gCp, okR, gCl, gCp, lx, lxL, lzL, lu]
      exact Keep.refl _
    · have eR := calm.1 e0
      simp (maxSteps := 4000000) (disch := omega) only [Zq, evO, vbox, wr, Zeq, if_true, if_false, Nat.reduceEqDiff, Nat.reduceAdd, Nat.reduceLeDiff, Nat.reduceSub, and_self, and_true, true_and, reduceIte, reduceCtorEq, eq_self, implies_true, forall_const, false_implies, imp_self, decide_true, decide_false, fix_nil, fix_cons, g7, g7p, g8, g8p, t3, t4, t5, t7, t8, g9, g9p, t9, t10, g10, g11, gCl, gCp, okR, gCl, gCp, lx, lxL, lzL, lu, Zfm e0]
      refine GO_call ((do_same (L := L) (lr_own (rLocking.ownKeep (by rw [← eR]; exact o10) k11)) (lr_own (rLocking.ownKeep o9 (k10.trans k11))) okI).mono ?_)
      rintro _ H12 ⟨k12, rfl⟩
      have n12 := k12.nxt
      simp (maxSteps := 4000000) (disch := omega) only [Zq, evO, vbox, wr, Zeq, if_true, if_false, Nat.reduceEqDiff, Nat.reduceAdd, Nat.reduceLeDiff, Nat.reduceSub, and_self, and_true, true_and, reduceIte, reduceCtorEq, eq_self, implies_true, forall_const, false_implies, imp_self, decide_true, decide_false, fix_nil, fix_cons, g7, g7p, g8, g8p, t3, t4, t5, t7, t8, g9, g9p, t9, t10, g10, g11, gCl, gCp, eR]
      exact k12
  rintro T2 H12 ⟨t3, t4, t5, t7, t8, t9, t152, k12⟩
  have n12 := k12.nxt
  have gC := (k12.get H9.nxt (by omega)).trans g11
  have gDl := (k12.get H4.nxt (by omega)).trans gCl
  have gDp := (k12.get H2.nxt (by omega)).trans gCp
  have k10_12 := k11.trans k12
  have hx7 := (ints_of l10.1).keep k10_12
  have hxL := (ints_of lL.1).keep (k10.trans k10_12)
  have hzL := (rSlc rBool).rdk lL.2.2 (k10.trans k10_12)
  have hunI := (ints_of hp.1).keep (k2B.trans k10_12)
  simp (maxSteps := 4000000) (disch := omega) only [Zq, evO, vbox, wr, Zeq, if_true, if_false, Nat.reduceEqDiff, Nat.reduceAdd, Nat.reduceLeDiff, Nat.reduceSub, and_self, and_true, true_and, reduceIte, reduceCtorEq, eq_self, implies_true, forall_const, false_implies, imp_self, decide_true, decide_false, fix_nil, fix_cons, g7, g7p, g8, g8p, t3, t4, t5, t7, t8, g9, g9p, t9, t10, g10, g11, gCl, gCp, t152, gC, gDl, gDp]
  refine G_forF [3, 4, 5, 7, 8, 9] (under.length) (fun k T H13 => T 11 = .int .i64 (k : Int) ∧ Keep H12 H13) 0 (Nat.zero_le _) ?_ ?_
  · simp (maxSteps := 4000000) (disch := omega) only [Zq, evO, vbox, wr, Zeq, if_true, if_false, Nat.reduceEqDiff, Nat.reduceAdd, Nat.reduceLeDiff, Nat.reduceSub, and_self, and_true, true_and, reduceIte, reduceCtorEq, eq_self, implies_true, forall_const, false_implies, imp_self, decide_true, decide_false, fix_nil, fix_cons, g7, g7p, g8, g8p, t3, t4, t5, t7, t8, g9, g9p, t9, t10, g10, g11, gCl, gCp, t152]
    exact Keep.refl _
  rintro k T H13 hk hT ⟨t11, k13⟩
  simp only [fix_nil, fix_cons, Zq, evO, vbox, wr, Zeq, if_true, if_false, Nat.reduceEqDiff, Nat.reduceAdd, Nat.reduceLeDiff, Nat.reduceSub, and_self, and_true, true_and, reduceIte, reduceCtorEq, eq_self, implies_true, forall_const, false_implies, imp_self, decide_true, decide_false, t3, t4, t5, t7, t8, t9, t10, t152] at hT
  obtain ⟨t3, t4, t5, t7, t8, t9⟩ := hT
  have n13 := k13.nxt
  have gE := (k13.get H9.nxt (by omega)).trans gC
  have gEl := (k13.get H4.nxt (by omega)).trans gDl
  have gEp := (k13.get H2.nxt (by omega)).trans gDp
  by_cases hkn : k < under.length
  rotate_left
  · simp (maxSteps := 4000000) (disch := omega) only [Zq, evO, vbox, wr, Zeq, if_true, if_false, Nat.reduceEqDiff, Nat.reduceAdd, Nat.reduceLeDiff, Nat.reduceSub, and_self, and_true, true_and, reduceIte, reduceCtorEq, eq_self, implies_true, forall_const, false_implies, imp_self, decide_true, decide_false, fix_nil, fix_cons, g7, g7p, g8, g8p, t3, t4, t5, t7, t8, g9, g9p, t9, t10, g10, g11, gCl, gCp, t152, t11, gE, gEl, gEp, lxL]
    refine ⟨hin, ?_, x7, y7, z7, F7, rfl, ?_, ?_⟩
    · exact c9.trans (((k10.trans k10_12).trans k13).chg.trans (Chg.set (List.mem_singleton.2 rfl)))
    · rw [lkGo_step hin, ← hL, ← hR]
      refine rLocking.ownChg (rLocking.ownKeep o10 (k10_12.trans k13)) (Chg.set (List.mem_singleton.2 rfl)) (fun a ha hm => ?_)
      rw [List.mem_singleton] at hm
      subst hm
      rcases f10 _ ha with h1 | h1
      · exact f9 h1
      · omega
    · intro ha
      rcases f10 _ ha with h1 | h1
      · exact f9 h1
      · omega
  have x7x := fun H1 : Heap => IntsK.idx (k' := .i64) (H1 := H1) hx7 (by omega : k < R.1.1.length)
  have xLx := fun H1 : Heap => IntsK.idx (k' := .i64) (H1 := H1) hxL (by omega : k < L.1.length)
  have x7l := IntsK.ld (hx7.keep k13) (by omega : k < R.1.1.length)
  have xLl := IntsK.ld (hxL.keep k13) (by omega : k < L.1.length)
  have ux := fun H1 : Heap => IntsK.idx (k' := .i64) (H1 := H1) hunI hkn
  have ul := IntsK.ld (hunI.keep k13) hkn
  have eo := (op_el ((rSlc rLockOp).rdk hw (k2B.trans (k10_12.trans k13))) hin).2.1
  simp (maxSteps := 4000000) (disch := omega) only [Zq, evO, vbox, wr, Zeq, if_true, if_false, Nat.reduceEqDiff, Nat.reduceAdd, Nat.reduceLeDiff, Nat.reduceSub, and_self, and_true, true_and, reduceIte, reduceCtorEq, eq_self, implies_true, forall_const, false_implies, imp_self, decide_true, decide_false, fix_nil, fix_cons, g7, g7p, g8, g8p, t3, t4, t5, t7, t8, g9, g9p, t9, t10, g10, g11, gCl, gCp, t152, t11, gE, gEl, gEp, lxL]
  refine G_tame rfl ?_
  by_cases ek : R.1.1.getD k 0 = L.1.getD k 0
  · rw [ek] at x7l
    simp (maxSteps := 4000000) (disch := omega) only [Zq, evO, vbox, wr, Zeq, if_true, if_false, Nat.reduceEqDiff, Nat.reduceAdd, Nat.reduceLeDiff, Nat.reduceSub, and_self, and_true, true_and, reduceIte, reduceCtorEq, eq_self, implies_true, forall_const, false_implies, imp_self, decide_true, decide_false, fix_nil, fix_cons, g7, g7p, g8, g8p, t3, t4, t5, t7, t8, g9, g9p, t9, t10, g10, g11, gCl, gCp, t152, t11, gE, gEl, gEp, x7x, xLx, x7l, xLl]
    exact ⟨hkn, k13⟩
  · obtain ⟨c1, c2⟩ := calm.2 k (by omega) ek
    obtain ⟨hu0, hub⟩ := hun k hkn
    obtain ⟨n, en⟩ : ∃ n : Nat, under.getD k 0 = n := ⟨_, (Int.toNat_of_nonneg hu0).symm⟩
    rw [en] at c2 ul hub
    rw [Int.toNat_natCast] at c2
    have hnL : n < L.2.2.length := by have := lnL.2; omega
    have zx := fun H1 : Heap => slc_idx (r := rBool) (H1 := H1) (sz := 1) (i := n) (k := .i64) rfl hzL hnL
    have zl := bool_el ((rSlc rBool).rdk hzL k13) hnL
    rw [c2] at zl
    rw [c1] at eo
    simp (maxSteps := 4000000) (disch := omega) only [Zq, evO, vbox, wr, Zeq, if_true, if_false, Nat.reduceEqDiff, Nat.reduceAdd, Nat.reduceLeDiff, Nat.reduceSub, and_self, and_true, true_and, reduceIte, reduceCtorEq, eq_self, implies_true, forall_const, false_implies, imp_self, decide_true, decide_false, fix_nil, fix_cons, g7, g7p, g8, g8p, t3, t4, t5, t7, t8, g9, g9p, t9, t10, g10, g11, gCl, gCp, t152, t11, gE, gEl, gEp, x7x, xLx, x7l, xLl, Zfm ek, ux, ul, zx, zl, ixo, fxo, eo]
    exact ⟨hkn, k13⟩
theorem go_laws_FnLocking (H : Heap) (xs : List Value) (h : GoodArgs Try.prog H Try.f4.params.toList xs) : ∃ H', CR Try.prog 4 xs H (.bool true) H' := by
  rw [Try.params4] at h
  obtain ⟨v, l, rfl, h1, h2⟩ := good_args_cons h
  obtain rfl := good_args_nil h2
  obtain ⟨_, g⟩ := goodV_one (by kernel_rfl) h1
  obtain ⟨w, code, e, hi, hm, hwf⟩ := good_ints (e := 5) (k := .u8) (by kernel_rfl) (by kernel_rfl) (by kernel_rfl) g
  simp at e
  subst e
  obtain ⟨r, H', hr, rfl⟩ := r_laws_FnLocking hi (fun x hx => wf8 (hwf x hx))
  exact ⟨H', hr⟩
end Go.Proofs.Ythjphddodooahaa.AX
