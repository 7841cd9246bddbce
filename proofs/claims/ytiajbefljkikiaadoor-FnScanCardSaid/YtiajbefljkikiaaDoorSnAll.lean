/- Drawn telegrams one behind the other with spoilt pieces between: the law's run. No condition; of the program: the functions' forms. -/
import Derived.Test.YtiajbefljkikiaaDoorXG
import Derived.Test.YtiajbefljkikiaaDoorAXza
import Derived.Test.YtiajbefljkikiaaDoorAXzc
import Derived.Test.YtiajbefljkikiaaDoorAXzf
import Derived.Test.YtiajbefljkikiaaDoorScx
import Derived.Test.YtiajbefljkikiaaDoorAxl
namespace Go.Proofs.YtiajbefljkikiaaDoor.AX
open Go
set_option maxRecDepth 10000
set_option maxHeartbeats 4000000
set_option linter.unusedSimpArgs false
set_option linter.unusedVariables false
abbrev Bts' := IntsK .u8
theorem getD_mem {xs : List Int} {i : Nat} (h : i < xs.length) : xs.getD i 0 ∈ xs := by
  have e : xs.getD i 0 = xs[i] := by simp [List.getD, List.getElem?_eq_getElem h]
  rw [e]; exact List.getElem_mem h
/-- A byte of the code, or one made up behind its end. -/
def atR (code : List Int) (i : Nat) : Int := if i < code.length then code.getD i 0 else ((i * 11 + code.length * 3 : Nat) : Int).tmod 256
theorem atR_range {code : List Int} {i : Nat} (hc : ∀ x ∈ code, 0 ≤ x ∧ x ≤ 255) : 0 ≤ atR code i ∧ atR code i ≤ 255 := by
  unfold atR
  split
  · rename_i h
    exact hc _ (getD_mem h)
  · rw [Int.tmod_eq_emod_of_nonneg (by omega)]
    omega
theorem r_laws_big {H : Heap} {v : Value} {xs : List Int} (h : Bts' H v xs) : Run Tryd.prog 6 [v] H fun r H' => Keep H H' ∧ r = .bool (decide ((1048576 : Int) < xs.length)) := by
  refine Run.intro c6 rfl ?_
  simp (maxSteps := 4000000) (disch := omega) only [Zq, evO, vbox, wr, Zeq, if_true, if_false, Nat.reduceEqDiff, Nat.reduceAdd, Nat.reduceLeDiff, Nat.reduceSub, and_self, and_true, true_and, reduceIte, reduceCtorEq, eq_self, implies_true, forall_const, false_implies, imp_self, decide_true, decide_false, x6, h.len_]
  exact Keep.refl _
theorem tmod_range {x k : Int} (hx : 0 ≤ x) (hk : 0 < k) : 0 ≤ x.tmod k ∧ x.tmod k < k := by
  rw [Int.tmod_eq_emod_of_nonneg hx]
  exact ⟨Int.emod_nonneg _ (by omega), Int.emod_lt_of_pos _ hk⟩
end Go.Proofs.YtiajbefljkikiaaDoor.AX
namespace Go.Proofs.YtiajbefljkikiaaDoor.AX
open Go
set_option maxRecDepth 10000
set_option maxHeartbeats 4000000
set_option linter.unusedSimpArgs false
set_option linter.unusedVariables false
def andI (k : IntKind) (a b : Int) : Int := k.wrap (BitVec.ofInt k.bits a &&& BitVec.ofInt k.bits b).toNat
theorem abin_and {k : IntKind} {a b : Int} : abin .and (.int k a) (.int k b) = some (.int k (andI k a b)) := by simp [abin, intOp, andI]
theorem abin_xor' {k : IntKind} {a b : Int} : ∃ c, abin .xor (.int k a) (.int k b) = some (.int k c) := ⟨_, by simp [abin, intOp]; rfl⟩
theorem abin_shr' {a b : Int} (hb : 0 ≤ b) : ∃ c, abin .shr (.int .i64 a) (.int .u64 b) = some (.int .i64 c) := by
  have h : ¬ b < 0 := by omega
  exact ⟨a.fdiv (2 ^ min b.toNat IntKind.i64.bits), by simp [abin, h]⟩
theorem and_255 (a : Int) : 0 ≤ andI .i64 a 255 ∧ andI .i64 a 255 ≤ 255 := by
  unfold andI
  have h : (BitVec.ofInt IntKind.i64.bits a &&& BitVec.ofInt IntKind.i64.bits 255).toNat ≤ 255 := by
    rw [BitVec.toNat_and]
    exact Nat.le_trans Nat.and_le_right (by decide)
  rw [wrap64 (by omega) (by omega)]
  omega
/-- A cursor at p over v, in a heap that has grown out of B. -/
def Cur (B : Heap) (v : Value) (code : List Int) (H : Heap) (p : Nat) : Prop := Keep B H ∧ B.nxt ≤ p ∧ p < H.nxt ∧ ∃ (pos : Nat) (seed : Int), H.get p = some (.own [v, .int .i64 (pos : Int), .int .i64 seed]) ∧ pos ≤ code.length
theorem Cur.chg {B H H' : Heap} {v : Value} {code : List Int} {p : Nat} (h : Cur B v code H p) (k : Keep H H') : Cur B v code H' p := by
  obtain ⟨h1, h2, h3, pos, seed, h4, h5⟩ := h
  exact ⟨h1.trans k, h2, Nat.lt_of_lt_of_le h3 k.nxt, pos, seed, by rw [k.get p h3]; exact h4, h5⟩
section
variable {B H : Heap} {v : Value} {code : List Int} {p : Nat}
theorem r_spec_l01New (hb : Bts' B v code) (hl : code.length ≤ 1048576) (k0 : Keep B H) : Run Tryd.prog 26 [v] H fun r H' => Keep H H' ∧ ∃ p, r = ptr p 0 ∧ H.nxt ≤ p ∧ Cur B v code H' p := by
  have h := hb.keep k0
  refine Run.intro c26 rfl ?_
  simp (maxSteps := 4000000) (disch := omega) only [Zq, evO, vbox, wr, Zeq, if_true, if_false, Nat.reduceEqDiff, Nat.reduceAdd, Nat.reduceLeDiff, Nat.reduceSub, and_self, and_true, true_and, reduceIte, reduceCtorEq, eq_self, implies_true, forall_const, false_implies, imp_self, decide_true, decide_false, x26, h.len_]
  refine G_for (min code.length 4000) (fun i T H1 => T 0 = v ∧ T 4 = .int .i64 (i : Int) ∧ (∃ s, T 3 = .int .i64 s) ∧ H1 = H) 0 (Nat.zero_le _) ?_ ?_
  · simp (maxSteps := 4000000) (disch := omega) only [Zq, evO, vbox, wr, Zeq, if_true, if_false, Nat.reduceEqDiff, Nat.reduceAdd, Nat.reduceLeDiff, Nat.reduceSub, and_self, and_true, true_and, reduceIte, reduceCtorEq, eq_self, implies_true, forall_const, false_implies, imp_self, decide_true, decide_false]
    exact ⟨_, rfl⟩
  · rintro i T H1 hi ⟨t0, t4, ⟨s, t3⟩, rfl⟩
    by_cases hin : i < min code.length 4000
    · have hic : i < code.length := by omega
      simp (maxSteps := 4000000) (disch := omega) only [Zq, evO, vbox, wr, Zeq, if_true, if_false, Nat.reduceEqDiff, Nat.reduceAdd, Nat.reduceLeDiff, Nat.reduceSub, and_self, and_true, true_and, reduceIte, reduceCtorEq, eq_self, implies_true, forall_const, false_implies, imp_self, decide_true, decide_false, t0, t4, t3, h.len_, h.idx hic, h.ld hic, abin_and]
      exact ⟨hin, _, rfl⟩
    · have hcase : code.length ≤ i ∨ (i < code.length ∧ 4000 ≤ i) := by omega
      have fin : Cur B v code (H1.push [v, .int .i64 0, .int .i64 s]) H1.nxt := ⟨k0.push', k0.nxt, by rw [Zbg]; omega, 0, s, by rw [push_get', if_pos rfl]; rfl, by omega⟩
      rcases hcase with hc | ⟨hc, hc'⟩
      · simp (maxSteps := 4000000) (disch := omega) only [Zq, evO, vbox, wr, Zeq, if_true, if_false, Nat.reduceEqDiff, Nat.reduceAdd, Nat.reduceLeDiff, Nat.reduceSub, and_self, and_true, true_and, reduceIte, reduceCtorEq, eq_self, implies_true, forall_const, false_implies, imp_self, decide_true, decide_false, t0, t4, t3, h.len_, Sl.noTup_ h, Sl.cells_ h]
        exact ⟨Keep.push _ _, _, rfl, Nat.le_refl _, fin⟩
      · simp (maxSteps := 4000000) (disch := omega) only [Zq, evO, vbox, wr, Zeq, if_true, if_false, Nat.reduceEqDiff, Nat.reduceAdd, Nat.reduceLeDiff, Nat.reduceSub, and_self, and_true, true_and, reduceIte, reduceCtorEq, eq_self, implies_true, forall_const, false_implies, imp_self, decide_true, decide_false, t0, t4, t3, h.len_, Sl.noTup_ h, Sl.cells_ h]
        exact ⟨Keep.push _ _, _, rfl, Nat.le_refl _, fin⟩
theorem r_spec_l01Byte (hb : Bts' B v code) (hl : code.length ≤ 1048576) (hc : ∀ x ∈ code, 0 ≤ x ∧ x ≤ 255) (c : Cur B v code H p) : Run Tryd.prog 49 [ptr p 0] H fun r H' => Chg [p] H H' ∧ Cur B v code H' p ∧ ∃ z : Int, r = .int .i64 z ∧ 0 ≤ z ∧ z ≤ 255 := by
  obtain ⟨k0, p0, p1, pos, seed, g, hpos⟩ := c
  have h := hb.keep k0
  refine Run.intro c49 rfl ?_
  simp (maxSteps := 4000000) (disch := omega) only [Zq, evO, vbox, wr, Zeq, if_true, if_false, Nat.reduceEqDiff, Nat.reduceAdd, Nat.reduceLeDiff, Nat.reduceSub, and_self, and_true, true_and, reduceIte, reduceCtorEq, eq_self, implies_true, forall_const, false_implies, imp_self, decide_true, decide_false, x49, g]
  refine G_calm rfl ?_
  obtain ⟨c1, e1⟩ := abin_shr' (a := IntKind.i64.wrap (IntKind.i64.wrap (seed * 6364136223846793005) + 1442695040888963407)) (b := 33) (by omega)
  obtain ⟨c2, e2⟩ := abin_shr' (a := IntKind.i64.wrap (IntKind.i64.wrap (seed * 6364136223846793005) + 1442695040888963407)) (b := 45) (by omega)
  obtain ⟨c3, e3⟩ := abin_xor' (k := .i64) (a := c1) (b := c2)
  have a1 := and_255 c3
  simp (maxSteps := 4000000) (disch := omega) only [Zq, evO, vbox, wr, Zeq, if_true, if_false, Nat.reduceEqDiff, Nat.reduceAdd, Nat.reduceLeDiff, Nat.reduceSub, and_self, and_true, true_and, reduceIte, reduceCtorEq, eq_self, implies_true, forall_const, false_implies, imp_self, decide_true, decide_false, g, e1, e2, e3, abin_and]
  generalize IntKind.i64.wrap (IntKind.i64.wrap (seed * 6364136223846793005) + 1442695040888963407) = seed' at *
  refine G_calm rfl ?_
  by_cases hp : pos < code.length
  · have a2 := and_255 (IntKind.i64.wrap (andI .i64 c3 255 + IntKind.i64.wrap (code.getD pos 0)))
    have kA : Keep B (H.set p [v, .int .i64 (pos : Int), .int .i64 seed']) := k0.set' p0
    have hA := hb.keep kA
    have hw : IntKind.i64.wrap ((pos : Int) + 1) = ((pos + 1 : Nat) : Int) := Zfn (by omega)
    simp (maxSteps := 4000000) (disch := omega) only [Zq, evO, vbox, wr, Zeq, if_true, if_false, Nat.reduceEqDiff, Nat.reduceAdd, Nat.reduceLeDiff, Nat.reduceSub, and_self, and_true, true_and, reduceIte, reduceCtorEq, eq_self, implies_true, forall_const, false_implies, imp_self, decide_true, decide_false, g, h.len_]
    refine G_calm rfl ?_
    simp (maxSteps := 4000000) (disch := omega) only [Zq, evO, vbox, wr, Zeq, if_true, if_false, Nat.reduceEqDiff, Nat.reduceAdd, Nat.reduceLeDiff, Nat.reduceSub, and_self, and_true, true_and, reduceIte, reduceCtorEq, eq_self, implies_true, forall_const, false_implies, imp_self, decide_true, decide_false, IntsK.idx hA hp, IntsK.ld hA hp, abin_and, hw]
    refine ⟨Chg.trans (Chg.set (by simp)) (Chg.set (by simp)), ⟨kA.set' p0, p0, by rw [Zbh, Zbh]; exact p1, pos + 1, seed', by rw [Zbi, if_pos rfl], by omega⟩, _, rfl, a2⟩
  · simp (maxSteps := 4000000) (disch := omega) only [Zq, evO, vbox, wr, Zeq, if_true, if_false, Nat.reduceEqDiff, Nat.reduceAdd, Nat.reduceLeDiff, Nat.reduceSub, and_self, and_true, true_and, reduceIte, reduceCtorEq, eq_self, implies_true, forall_const, false_implies, imp_self, decide_true, decide_false, g, h.len_]
    exact ⟨Chg.set (by simp), ⟨k0.set' p0, p0, by rw [Zbh]; exact p1, pos, seed', by rw [Zbi, if_pos rfl], hpos⟩, _, rfl, a1⟩
theorem r_spec_l01Below {n : Nat} (hb : Bts' B v code) (hl : code.length ≤ 1048576) (hc : ∀ x ∈ code, 0 ≤ x ∧ x ≤ 255) (c : Cur B v code H p) (hn : 1 ≤ n) (hn' : n ≤ 1000000) : Run Tryd.prog 41 [ptr p 0, .int .i64 (n : Int)] H fun r H' => Chg [p] H H' ∧ Cur B v code H' p ∧ ∃ z : Nat, r = .int .i64 (z : Int) ∧ z < n := by
  refine Run.intro c41 rfl ?_
  by_cases h256 : n ≤ 256
  · simp (maxSteps := 4000000) (disch := omega) only [Zq, evO, vbox, wr, Zeq, if_true, if_false, Nat.reduceEqDiff, Nat.reduceAdd, Nat.reduceLeDiff, Nat.reduceSub, and_self, and_true, true_and, reduceIte, reduceCtorEq, eq_self, implies_true, forall_const, false_implies, imp_self, decide_true, decide_false, x41]
    refine GO_call ((r_spec_l01Byte hb hl hc c).mono ?_)
    rintro _ H1 ⟨c1, u1, z, rfl, hz⟩
    have hr : abin .rem (.int .i64 z) (.int .i64 (n : Int)) = some (.int .i64 (z.tmod n)) := abin_rem (by omega)
    have h1 := tmod_range hz.1 (show (0 : Int) < n by omega)
    simp (maxSteps := 4000000) (disch := omega) only [Zq, evO, vbox, wr, Zeq, if_true, if_false, Nat.reduceEqDiff, Nat.reduceAdd, Nat.reduceLeDiff, Nat.reduceSub, and_self, and_true, true_and, reduceIte, reduceCtorEq, eq_self, implies_true, forall_const, false_implies, imp_self, decide_true, decide_false, hr]
    exact ⟨c1, u1, (z.tmod n).toNat, by congr 1; omega, by omega⟩
  · simp (maxSteps := 4000000) (disch := omega) only [Zq, evO, vbox, wr, Zeq, if_true, if_false, Nat.reduceEqDiff, Nat.reduceAdd, Nat.reduceLeDiff, Nat.reduceSub, and_self, and_true, true_and, reduceIte, reduceCtorEq, eq_self, implies_true, forall_const, false_implies, imp_self, decide_true, decide_false, x41]
    refine GO_call ((r_spec_l01Byte hb hl hc c).mono ?_)
    rintro _ H1 ⟨c1, u1, z1, rfl, hz1⟩
    simp (maxSteps := 4000000) (disch := omega) only [Zq, evO, vbox, wr, Zeq, if_true, if_false, Nat.reduceEqDiff, Nat.reduceAdd, Nat.reduceLeDiff, Nat.reduceSub, and_self, and_true, true_and, reduceIte, reduceCtorEq, eq_self, implies_true, forall_const, false_implies, imp_self, decide_true, decide_false]
    refine GO_call ((r_spec_l01Byte hb hl hc u1).mono ?_)
    rintro _ H2 ⟨c2, u2, z2, rfl, hz2⟩
    simp (maxSteps := 4000000) (disch := omega) only [Zq, evO, vbox, wr, Zeq, if_true, if_false, Nat.reduceEqDiff, Nat.reduceAdd, Nat.reduceLeDiff, Nat.reduceSub, and_self, and_true, true_and, reduceIte, reduceCtorEq, eq_self, implies_true, forall_const, false_implies, imp_self, decide_true, decide_false]
    refine GO_call ((r_spec_l01Byte hb hl hc u2).mono ?_)
    rintro _ H3 ⟨c3, u3, z3, rfl, hz3⟩
    have w1 : IntKind.i64.wrap (z1 * 65536) = z1 * 65536 := wrap64 (by omega) (by omega)
    have w2 : IntKind.i64.wrap (z2 * 256) = z2 * 256 := wrap64 (by omega) (by omega)
    have w3 : IntKind.i64.wrap (z1 * 65536 + z2 * 256) = z1 * 65536 + z2 * 256 := wrap64 (by omega) (by omega)
    have w4 : IntKind.i64.wrap (z1 * 65536 + z2 * 256 + z3) = z1 * 65536 + z2 * 256 + z3 := wrap64 (by omega) (by omega)
    have hr : abin .rem (.int .i64 (z1 * 65536 + z2 * 256 + z3)) (.int .i64 (n : Int)) = some (.int .i64 ((z1 * 65536 + z2 * 256 + z3).tmod n)) := abin_rem (by omega)
    have h1 := tmod_range (x := z1 * 65536 + z2 * 256 + z3) (by omega) (show (0 : Int) < n by omega)
    simp (maxSteps := 4000000) (disch := omega) only [Zq, evO, vbox, wr, Zeq, if_true, if_false, Nat.reduceEqDiff, Nat.reduceAdd, Nat.reduceLeDiff, Nat.reduceSub, and_self, and_true, true_and, reduceIte, reduceCtorEq, eq_self, implies_true, forall_const, false_implies, imp_self, decide_true, decide_false, w1, w2, w3, w4, hr]
    exact ⟨c1.trans (c2.trans c3), u3, ((z1 * 65536 + z2 * 256 + z3).tmod n).toNat, by congr 1; omega, by omega⟩
end
end Go.Proofs.YtiajbefljkikiaaDoor.AX
namespace Go.Proofs.YtiajbefljkikiaaDoor.AX
open Go
set_option maxRecDepth 10000
set_option maxHeartbeats 4000000
set_option linter.unusedSimpArgs false
set_option linter.unusedVariables false
section
variable {B H H1 H2 : Heap} {v : Value} {code : List Int} {p : Nat}
theorem cur_ch {G : List Nat} (h : Cur B v code H1 p) (n : H1.nxt ≤ H2.nxt) (g : ∀ a, a < H1.nxt → a ∉ G → H2.get a = H1.get a) (hB : ∀ a ∈ G, B.nxt ≤ a) (hp : p ∉ G) : Cur B v code H2 p := by
  obtain ⟨h1, h2, h3, pos, seed, h4, h5⟩ := h
  exact ⟨⟨Nat.le_trans h1.nxt n, fun a ha => (g a (Nat.lt_of_lt_of_le ha h1.nxt) (fun hm => by have := hB a hm; omega)).trans (h1.get a ha)⟩, h2, Nat.lt_of_lt_of_le h3 n, pos, seed, by rw [g p h3 hp]; exact h4, h5⟩
end
/-- A list under construction; old memory is as it was, but for the cursor at p. -/
structure GP {α : Type} (r : Rep α) (B : Heap) (v : Value) (code : List Int) (p : Nat) (H H1 : Heap) (w : Value) (xs : List α) (F : List Nat) : Prop where
  chg : Chg [p] H H1
  cur : Cur B v code H1 p
  pl : p < H.nxt
  o : (rSlc r).own H1 [w] xs F
  nd : F.Nodup
  fr : ∀ a ∈ F, H.nxt ≤ a
section
variable {α : Type} {r : Rep α} {B : Heap} {v : Value} {code : List Int} {p : Nat} {H H1 H2 : Heap} {w : Value} {xs : List α} {F : List Nat} {sz bytes : Nat}
theorem GP.mv (h : GP r B v code p H H1 w xs F) (c : Chg [p] H1 H2) (cu : Cur B v code H2 p) : GP r B v code p H H2 w xs F :=
  ⟨h.chg.trans c, cu, h.pl, (rSlc r).ownChg h.o c (fun a ha hm => by have := h.fr a ha; have := h.pl; simp at hm; omega), h.nd, h.fr⟩
theorem GP.keep (h : GP r B v code p H H1 w xs F) (k : Keep H1 H2) : GP r B v code p H H2 w xs F := h.mv k.chg (h.cur.chg k)
theorem GP.app (h : GP r B v code p H H1 w xs F) (hz : r.sz = sz) (h0 : 0 < sz) {row : List Value} {y : α} {G : List Nat} (hy : r.own H1 row y G) (hG : G.Nodup) (hd : ∀ a ∈ G, H.nxt ≤ a ∧ a ∉ F) (hb : (xs.length + 1) * bytes ≤ 140737488355328) :
    ∃ u H2 F', vapp (H1.push row) sz bytes w (.slice (some ⟨H1.nxt, 0, none⟩) 1 sz) = some (u, H2) ∧ GP r B v code p H H2 u (xs ++ [y]) F' ∧ H1.nxt ≤ H2.nxt ∧ ∀ a, a < H1.nxt → a ∉ F → H2.get a = H1.get a := by
  obtain ⟨u, H2, F', e, o, c, f, nd, _⟩ := own_app (bytes := bytes) hz h0 h.o hy h.nd hG (fun a ha => (hd a ha).2) hb
  have n := c.nxt
  have nH := h.chg.nxt
  have pl := h.pl
  have old : ∀ a, a < H1.nxt → a ∉ F → H2.get a = H1.get a := fun a ha hm => c.get a ha hm
  have pF : p ∉ F := fun hm => by have := h.fr p hm; omega
  refine ⟨u, H2, F', e, ⟨⟨by omega, fun a ha hm => ?_⟩, cur_ch (G := F) h.cur n old (fun a ha => ?_) pF, pl, o, nd, fun a ha => ?_⟩, n, old⟩
  · rw [old a (by omega) (fun hh => by have := h.fr a hh; omega), h.chg.get a ha hm]
  · have := h.fr a ha
    have := h.cur.2.1
    omega
  · rcases f a ha with h1 | h1 | h1
    · exact h.fr a h1
    · exact (hd a h1).1
    · omega
theorem GP.new (c : Cur B v code H p) (hz : r.sz = sz) : GP r B v code p H (H.push []) (.slice (some ⟨H.nxt, 0, none⟩) 0 sz) [] [H.nxt] :=
  ⟨(Keep.push _ _).chg, c.chg (Keep.push _ _), c.2.2.1, own_new' hz, by simp, by simp⟩
theorem GP.nil (c : Cur B v code H p) : GP r B v code p H H (.slice none 0 0) [] [] :=
  ⟨Chg.refl _ _, c, c.2.2.1, .inl ⟨rfl, rfl, rfl⟩, by simp, by simp⟩
end
section
variable {B : Heap} {v : Value} {code : List Int} {p : Nat} {H : Heap}
theorem r_spec_l01PickInt {w : Value} {xs : List Int} (hb : Bts' B v code) (hl : code.length ≤ 1048576) (hc : ∀ x ∈ code, 0 ≤ x ∧ x ≤ 255) (c : Cur B v code H p) (hw : Ints H w xs) (hp : blk w ≠ p) (hn : 1 ≤ xs.length) (hn' : xs.length ≤ 1000000) : Run Tryd.prog 42 [ptr p 0, w] H fun r H' => Chg [p] H H' ∧ Cur B v code H' p ∧ ∃ z : Nat, z < xs.length ∧ r = .int .i64 (xs.getD z 0) := by
  have lw : ∀ H : Heap, vlen H w = some (.int .i64 xs.length, H) := fun _ => Sl.len_ hw
  refine Run.intro c42 rfl ?_
  simp (maxSteps := 4000000) (disch := omega) only [Zq, evO, vbox, wr, Zeq, if_true, if_false, Nat.reduceEqDiff, Nat.reduceAdd, Nat.reduceLeDiff, Nat.reduceSub, and_self, and_true, true_and, reduceIte, reduceCtorEq, eq_self, implies_true, forall_const, false_implies, imp_self, decide_true, decide_false, x42, lw]
  refine GO_call ((r_spec_l01Below hb hl hc c hn hn').mono ?_)
  rintro _ H1 ⟨c1, u1, z, rfl, hz⟩
  have bl := Sl.blk_lt hw hz
  have hw1 : Ints H1 w xs := Sl.agree hw c1.nxt (c1.get _ bl (by simpa using hp))
  simp (maxSteps := 4000000) (disch := omega) only [Zq, evO, vbox, wr, Zeq, if_true, if_false, Nat.reduceEqDiff, Nat.reduceAdd, Nat.reduceLeDiff, Nat.reduceSub, and_self, and_true, true_and, reduceIte, reduceCtorEq, eq_self, implies_true, forall_const, false_implies, imp_self, decide_true, decide_false, fix_nil, fix_cons, hw1.idx hz, hw1.ld hz]
  exact ⟨c1, u1, z, hz, rfl⟩
theorem r_spec_l01Size {n : Nat} (hb : Bts' H v code) (hl : code.length ≤ 1048576) (hn : n ≤ 1000000) : Run Tryd.prog 46 [v, .int .i64 (n : Int)] H fun r H' => Keep H H' ∧ ∃ z : Nat, z ≤ n ∧ r = .int .i64 (z : Int) := by
  have hq : abin .quo (.int .i64 (code.length : Int)) (.int .i64 16) = some (.int .i64 ((code.length / 16 : Nat) : Int)) := by
    rw [abin_quo (by decide), Int.tdiv_eq_ediv_of_nonneg (by omega), wrap64 (by omega) (by omega)]
    rfl
  have hw : IntKind.i64.wrap (2 + ((code.length / 16 : Nat) : Int)) = ((2 + code.length / 16 : Nat) : Int) := by rw [wrap64 (by omega) (by omega)]; omega
  by_cases h : n < 2 + code.length / 16
  · refine Run.intro c46 rfl ?_
    simp (maxSteps := 4000000) (disch := omega) only [Zq, evO, vbox, wr, Zeq, if_true, if_false, Nat.reduceEqDiff, Nat.reduceAdd, Nat.reduceLeDiff, Nat.reduceSub, and_self, and_true, true_and, reduceIte, reduceCtorEq, eq_self, implies_true, forall_const, false_implies, imp_self, decide_true, decide_false, x46, hb.len_, hq, hw]
    exact ⟨Keep.refl _, n, Nat.le_refl _, rfl⟩
  · refine Run.intro c46 rfl ?_
    simp (maxSteps := 4000000) (disch := omega) only [Zq, evO, vbox, wr, Zeq, if_true, if_false, Nat.reduceEqDiff, Nat.reduceAdd, Nat.reduceLeDiff, Nat.reduceSub, and_self, and_true, true_and, reduceIte, reduceCtorEq, eq_self, implies_true, forall_const, false_implies, imp_self, decide_true, decide_false, x46, hb.len_, hq, hw]
    exact ⟨Keep.refl _, _, by omega, rfl⟩
theorem r_spec_l01Once {n : Nat} (hb : Bts' B v code) (hl : code.length ≤ 1048576) (hc : ∀ x ∈ code, 0 ≤ x ∧ x ≤ 255) (c : Cur B v code H p) (hn : 1 ≤ n) (hn' : n ≤ 1000000) : Run Tryd.prog 47 [ptr p 0, .int .i64 (n : Int)] H fun r H' => Chg [p] H H' ∧ Cur B v code H' p ∧ ∃ t : Bool, r = .bool t := by
  refine Run.intro c47 rfl ?_
  simp (maxSteps := 4000000) (disch := omega) only [Zq, evO, vbox, wr, Zeq, if_true, if_false, Nat.reduceEqDiff, Nat.reduceAdd, Nat.reduceLeDiff, Nat.reduceSub, and_self, and_true, true_and, reduceIte, reduceCtorEq, eq_self, implies_true, forall_const, false_implies, imp_self, decide_true, decide_false, x47]
  refine GO_call ((r_spec_l01Below hb hl hc c hn hn').mono ?_)
  rintro _ H1 ⟨c1, u1, z, rfl, hz⟩
  simp (maxSteps := 4000000) (disch := omega) only [Zq, evO, vbox, wr, Zeq, if_true, if_false, Nat.reduceEqDiff, Nat.reduceAdd, Nat.reduceLeDiff, Nat.reduceSub, and_self, and_true, true_and, reduceIte, reduceCtorEq, eq_self, implies_true, forall_const, false_implies, imp_self, decide_true, decide_false, fix_nil, fix_cons]
  exact ⟨c1, u1, _, rfl⟩
end
end Go.Proofs.YtiajbefljkikiaaDoor.AX
namespace Go.Proofs.YtiajbefljkikiaaDoor.AX
open Go
set_option linter.unusedSimpArgs false
set_option linter.unusedVariables false
def bodL (t : Tel) : List Int := (loadL t.1 t.2.1 t.2.2).flatMap encB
theorem dec_enc {t : Tel} (h : okT t = true) (hb : ∀ x ∈ t.2.2, isB x) : decI (encR t.1 t.2.1 t.2.2) = (t, true) := (dec_code h hb rfl).1
theorem enc_form {t : Tel} (h : okT t = true) : encR t.1 t.2.1 t.2.2 = (126 : Int) :: bodL t ++ [126] := by
  have h' : okTel t.1 t.2.1 t.2.2.length = true := h
  rw [encR, if_pos h']
  rfl
theorem encB_no {b : Int} : ∀ x ∈ encB b, x ≠ 126 := by
  intro x hx
  unfold encB at hx
  split at hx
  · rename_i hb
    simp only [List.mem_cons, List.not_mem_nil, or_false] at hx
    rcases hx with rfl | rfl
    · omega
    · rcases hb with rfl | rfl
      · exact (by decide +kernel : xorI .u8 126 32 ≠ 126)
      · exact (by decide +kernel : xorI .u8 125 32 ≠ 126)
  · rename_i hb
    simp only [List.mem_singleton] at hx
    subst hx
    exact fun e => hb (.inl e)
theorem bodL_no (t : Tel) : ∀ x ∈ bodL t, x ≠ 126 := by
  intro x hx
  obtain ⟨b, _, hb⟩ := List.mem_flatMap.1 hx
  exact encB_no x hb
theorem encB_ge (b : Int) : 1 ≤ (encB b).length := by unfold encB; split <;> simp
theorem flat_ge (L : List Int) : L.length ≤ (L.flatMap encB).length := by
  induction L with
  | nil => simp
  | cons b L ih =>
    rw [List.flatMap_cons, List.length_append, List.length_cons]
    have := encB_ge b
    omega
theorem bodL_len (t : Tel) : 4 ≤ (bodL t).length := by
  have := flat_ge (loadL t.1 t.2.1 t.2.2)
  rw [loadL_len] at this
  unfold bodL
  omega
theorem spl_flag (xs : List Int) : spl (126 :: xs) = [] :: spl xs := by rw [spl, if_pos rfl]
theorem spl_sent {t : Tel} (r : List Int) : spl ((126 : Int) :: bodL t ++ 126 :: r) = [] :: bodL t :: spl r := by
  rw [List.cons_append, spl_flag, spl_cut (bodL_no t)]
theorem bodL_ne (t : Tel) : bodL t ≠ [] := fun e => by have := bodL_len t; rw [e] at this; simp at this
theorem scS_sent {t : Tel} (h : okT t = true) (hb : ∀ x ∈ t.2.2, isB x) (a : List Tel × Int) : scS a (bodL t) = (a.1 ++ [t], a.2) := by
  have e := dec_enc h hb
  rw [enc_form h] at e
  have := scS_yes (a := a) (bodL_ne t) (by rw [e])
  rw [this, e]
theorem sc_one {t : Tel} (h : okT t = true) (hb : ∀ x ∈ t.2.2, isB x) : scR (([126, 126] ++ encR t.1 t.2.1 t.2.2) ++ [126]) = ([t], 0) := by
  have hl := encR_len t.1 t.2.1 t.2.2
  rw [scR, if_pos (by simp only [List.length_append, List.length_cons, List.length_nil]; omega), scL, enc_form h]
  have e : ([126, 126] ++ ((126 : Int) :: bodL t ++ [126])) ++ [126] = 126 :: 126 :: ((126 : Int) :: bodL t ++ 126 :: [126]) := by simp
  rw [e, spl_flag, spl_flag, spl_sent]
  simp only [List.foldl_cons, scS_nil, scS_sent h hb]
  rfl
theorem xor_ne {a c : Int} (ha : isB a) (h1 : 1 ≤ c) (h2 : c ≤ 255) : isB (xorI .u8 a c) ∧ xorI .u8 a c ≠ a := by
  refine ⟨wrap_isB _, fun e => ?_⟩
  obtain ⟨n, rfl⟩ := Int.eq_ofNat_of_zero_le ha.1
  obtain ⟨m, rfl⟩ := Int.eq_ofNat_of_zero_le (by omega : 0 ≤ c)
  have hn : n < 256 := by have := ha.2; omega
  have hm : m < 256 := by omega
  have hx : n ^^^ m < 256 := Nat.xor_lt_two_pow (n := 8) (by omega) (by omega)
  have e1 : (BitVec.ofInt 8 (n : Int) ^^^ BitVec.ofInt 8 (m : Int)).toNat = n ^^^ m := by
    rw [BitVec.ofInt_natCast, BitVec.ofInt_natCast, BitVec.toNat_xor, BitVec.toNat_ofNat, BitVec.toNat_ofNat, Nat.mod_eq_of_lt (by omega), Nat.mod_eq_of_lt (by omega)]
  have e2 : xorI .u8 (n : Int) (m : Int) = ((n ^^^ m : Nat) : Int) := by
    show IntKind.u8.wrap ((BitVec.ofInt 8 (n : Int) ^^^ BitVec.ofInt 8 (m : Int)).toNat : Int) = _
    rw [e1, wrap8, Nat.mod_eq_of_lt hx]
  rw [e2] at e
  have e3 : n ^^^ m = n := by omega
  have e4 : n ^^^ (n ^^^ m) = m := by rw [← Nat.xor_assoc, Nat.xor_self, Nat.zero_xor]
  rw [e3, Nat.xor_self] at e4
  omega
theorem decI_eq (d : List Int) : ∃ b, b = unI ((d.drop 1).take (d.length - 2)) ∧ decI d = if (6 ≤ d.length ∧ d.length ≤ 130) ∧ 4 ≤ b.length ∧ okT (telL b) = true ∧ encR (telL b).1 (telL b).2.1 (telL b).2.2 = d then (telL b, true) else (telZ, false) := ⟨_, rfl, rfl⟩
theorem dec_inv {d : List Int} (h : (decI d).2 = true) : encR (decI d).1.1 (decI d).1.2.1 (decI d).1.2.2 = d := by
  obtain ⟨b, hb, e⟩ := decI_eq d
  rw [e] at h ⊢
  split at h
  · rename_i hc
    rw [if_pos hc]
    exact hc.2.2.2
  · cases h
theorem dec_isB {d : List Int} (h : ∀ x ∈ d, isB x) : ∀ x ∈ (decI d).1.2.2, isB x := by
  obtain ⟨b, hb, e⟩ := decI_eq d
  have hbB : ∀ x ∈ b, isB x := by
    rw [hb]
    exact unI_isB (fun y hy => h y (List.mem_of_mem_drop (List.mem_of_mem_take hy)))
  rw [e]
  split
  · intro x hx
    have hx' : x ∈ (b.drop 3).take (b.length - 4) := hx
    exact hbB x (List.mem_of_mem_drop (List.mem_of_mem_take hx'))
  · intro x hx
    have hx' : x ∈ ([] : List Int) := hx
    cases hx'
theorem dec_len (d : List Int) : (decI d).1.2.2.length ≤ 60 := by
  obtain ⟨b, hb, e⟩ := decI_eq d
  rw [e]
  split
  · rename_i hc
    have h := hc.2.2.1
    generalize telL b = t at h ⊢
    obtain ⟨x, y, l⟩ := t
    simp only [okT, okTel, Bool.and_eq_true, decide_eq_true_eq] at h
    exact h.2
  · show ([] : List Int).length ≤ 60
    simp
theorem set_ne {xs : List Int} {k : Nat} {x : Int} (hk : k < xs.length) (h : x ≠ xs.getD k 0) : xs.set k x ≠ xs := by
  intro e
  have : (xs.set k x).getD k 0 = xs.getD k 0 := by rw [e]
  rw [List.getD_eq_getElem?_getD, List.getElem?_set_self hk] at this
  exact h (by simpa using this)
theorem set_isB {xs : List Int} {k : Nat} {x : Int} (h : ∀ y ∈ xs, isB y) (hx : isB x) : ∀ y ∈ xs.set k x, isB y := by
  intro y hy
  rcases List.mem_or_eq_of_mem_set hy with h1 | h1
  · exact h y h1
  · rw [h1]; exact hx
end Go.Proofs.YtiajbefljkikiaaDoor.AX
namespace Go.Proofs.YtiajbefljkikiaaDoor.AX
open Go
set_option maxRecDepth 10000
set_option linter.unusedSimpArgs false
set_option linter.unusedVariables false
/-- A telegram as it is drawn. -/
def drT (t : Tel) : Prop := 0 ≤ t.1 ∧ t.1 ≤ 255 ∧ 0 ≤ t.2.1 ∧ t.2.1 ≤ 15 ∧ t.2.2.length ≤ 1 ∧ ∀ x ∈ t.2.2, 0 ≤ x ∧ x ≤ 255
def dbl : List Tel → List Tel
  | [] => []
  | t :: ts => t :: t :: dbl ts
theorem dbl_len : ∀ ts : List Tel, (dbl ts).length = 2 * ts.length
  | [] => rfl
  | t :: ts => by simp only [dbl, List.length_cons, dbl_len ts]; omega
theorem dbl_app : ∀ (ts us : List Tel), dbl (ts ++ us) = dbl ts ++ dbl us
  | [], us => rfl
  | t :: ts, us => by simp only [List.cons_append, dbl, dbl_app ts us]
theorem dbl_ok {ts : List Tel} (h : ∀ t ∈ ts, drT t) : ∀ t ∈ dbl ts, drT t := by
  induction ts with
  | nil => intro t ht; cases ht
  | cons x ts ih =>
    intro t ht
    simp only [dbl, List.mem_cons] at ht
    rcases ht with rfl | rfl | ht
    · exact h _ (by simp)
    · exact h _ (by simp)
    · exact ih (fun y hy => h y (by simp [hy])) t ht
theorem drT_ok {t : Tel} (h : drT t) : okT t = true := by
  obtain ⟨h1, h2, h3, h4, h5, _⟩ := h
  simp [okT, okTel, inR, h1, h2, h3, h4]
  omega
/-- What the count holds on its way. -/
def axI (k : Nat) (s : Int × Int × Nat) : Prop := -1 ≤ s.1 ∧ s.1 ≤ 255 * k ∧ 0 ≤ s.2.1 ∧ s.2.1 ≤ 255
theorem cnt_bd {c kind : Int} {l : List Int} {k : Nat} (h1 : -1 ≤ c) (h2 : c ≤ 255 * k) (hk : k ≤ 1000) (hl : ∀ x ∈ l, 0 ≤ x ∧ x ≤ 255) : -1 ≤ cntR c kind l ∧ cntR c kind l ≤ 255 * (k + 1 : Nat) := by
  have hn : 0 ≤ cntN l ∧ cntN l ≤ 255 := by
    rw [cntN]
    split
    · rename_i h
      have := hl (l.getD 0 0) (by rw [getD_get _ _ h]; exact List.getElem_mem h)
      rw [wrap64 (by omega) (by omega)]
      exact this
    · omega
  rw [cntR]
  generalize cntN l = n at hn
  have hw1 : IntKind.i64.wrap (c + n) = c + n := wrap64 (by omega) (by omega)
  have hw2 : IntKind.i64.wrap (c - n) = c - n := wrap64 (by omega) (by omega)
  rw [cntS, hw1, hw2]
  split
  · omega
  · split
    · omega
    · split
      · split <;> omega
      · omega
theorem axI_step {k : Nat} {s : Int × Int × Nat} {t : Tel} (h : axI k s) (ht : drT t) (hk : k ≤ 1000) : axI (k + 1) (axStep s t) := by
  obtain ⟨h1, h2, h3, h4⟩ := h
  obtain ⟨t1, t2, t3, t4, t5, t6⟩ := ht
  rw [axStep]
  split
  · exact ⟨h1, by show s.1 ≤ _; omega, h3, h4⟩
  · refine ⟨?_, ?_, t1, t2⟩
    · by_cases c : accR s.2.1 t.1 = 2
      · simp only [c, if_true]; exact (cnt_bd (k := k) (by omega) (by omega) hk t6).1
      · simp only [c, if_false]; exact (cnt_bd h1 h2 hk t6).1
    · by_cases c : accR s.2.1 t.1 = 2
      · simp only [c, if_true]; exact (cnt_bd (k := k) (by omega) (by omega) hk t6).2
      · simp only [c, if_false]; exact (cnt_bd h1 h2 hk t6).2
theorem acc_in {last seq : Int} (h1 : 0 ≤ last) (h2 : last ≤ 255) (h3 : 0 ≤ seq) (h4 : seq ≤ 255) : accR last seq = if seq = (last + 1) % 256 then 0 else if seq = last then 1 else 2 := by
  rw [accR_ok (inR_iff.2 ⟨h1, h2⟩) (inR_iff.2 ⟨h3, h4⟩), Int.tmod_eq_emod_of_nonneg (by omega)]
theorem acc_same {s : Int} (h1 : 0 ≤ s) (h2 : s ≤ 255) : accR s s = 1 := by
  rw [acc_in h1 h2 h1 h2, if_neg (by omega), if_pos rfl]
theorem acc_next {s : Int} (h1 : 0 ≤ s) (h2 : s ≤ 255) : accR s ((s + 1) % 256) = 0 := by
  rw [acc_in h1 h2 (by omega) (by omega), if_pos rfl]
/-- Who has been seen last is who came last. -/
theorem ax_last {s : Int × Int × Nat} {t : Tel} (h : 0 ≤ s.2.1 ∧ s.2.1 ≤ 255) (ht : drT t) : (axStep s t).2.1 = t.1 := by
  rw [axStep]
  split
  · rename_i c
    rw [acc_in h.1 h.2 ht.1 ht.2.1] at c
    show s.2.1 = t.1
    split at c
    · cases c
    · split at c
      · omega
      · cases c
  · rfl
theorem ax_dbl {k : Nat} {s : Int × Int × Nat} {t : Tel} {n : Nat} (h : axI k s) (ht : drT t) (hk : k ≤ 1000) :
    axStep (axStep (s.1, s.2.1, n) t) t = ((axStep s t).1, (axStep s t).2.1, n + 1 + ((axStep s t).2.2 - s.2.2)) ∧ s.2.2 ≤ (axStep s t).2.2 ∧ (axStep s t).2.2 ≤ s.2.2 + 1 := by
  have hl := ax_last (s := (s.1, s.2.1, n)) h.2.2 ht
  have e : axStep (axStep (s.1, s.2.1, n) t) t = ((axStep (s.1, s.2.1, n) t).1, (axStep (s.1, s.2.1, n) t).2.1, (axStep (s.1, s.2.1, n) t).2.2 + 1) := by
    generalize axStep (s.1, s.2.1, n) t = q at hl
    rw [axStep, hl, acc_same ht.1 ht.2.1, if_pos rfl]
  rw [e]
  rw [axStep, axStep]
  by_cases c : accR s.2.1 t.1 = 1
  · simp only [c, if_true]
    refine ⟨by congr 2; omega, by omega, by omega⟩
  · simp only [c, if_false]
    refine ⟨by congr 2; omega, by omega, by omega⟩
theorem ax_inv {ts : List Tel} (h : ∀ t ∈ ts, drT t) : ∀ (k : Nat) (s : Int × Int × Nat) (n : Nat), k + ts.length ≤ 1000 → axI k s →
    axI (k + ts.length) (ts.foldl axStep s) ∧ s.2.2 ≤ (ts.foldl axStep s).2.2 ∧ (ts.foldl axStep s).2.2 ≤ s.2.2 + ts.length ∧ (dbl ts).foldl axStep (s.1, s.2.1, n) = ((ts.foldl axStep s).1, (ts.foldl axStep s).2.1, n + ts.length + ((ts.foldl axStep s).2.2 - s.2.2)) := by
  induction ts with
  | nil => intro k s n _ hs; exact ⟨hs, Nat.le_refl _, Nat.le_refl _, by simp [dbl]⟩
  | cons t ts ih =>
    intro k s n hk hs
    simp only [List.length_cons] at hk
    have ht := h t (by simp)
    have h1 := axI_step hs ht (by omega)
    obtain ⟨e, e1, e2⟩ := ax_dbl (n := n) hs ht (by omega)
    obtain ⟨i1, i2, i3, i4⟩ := ih (fun x hx => h x (by simp [hx])) (k + 1) (axStep s t) (n + 1 + ((axStep s t).2.2 - s.2.2)) (by omega) h1
    simp only [List.foldl_cons, List.length_cons, dbl, e]
    refine ⟨by rw [show k + (ts.length + 1) = k + 1 + ts.length by omega]; exact i1, by omega, by omega, ?_⟩
    rw [i4]
    congr 2
    omega
theorem ax_seq {ts : List Tel} (h : ∀ t ∈ ts, drT t) : ∀ s : Int × Int × Nat, 0 ≤ s.2.1 ∧ s.2.1 ≤ 255 → (ts.foldl axStep s).2.1 = (match ts.getLast? with | some t => t.1 | none => s.2.1) := by
  induction ts with
  | nil => intro s _; rfl
  | cons t ts ih =>
    intro s hs
    have ht := h t (by simp)
    have hl := ax_last hs ht
    rw [List.foldl_cons, ih (fun x hx => h x (by simp [hx])) _ (by rw [hl]; exact ⟨ht.1, ht.2.1⟩), hl]
    cases ts with
    | nil => rfl
    | cons a b => rw [List.getLast?_cons_cons]; cases he : (a :: b).getLast? with
      | none => simp at he
      | some x => rfl
theorem axR_dr {ts : List Tel} (h : ∀ t ∈ ts, drT t) (hl : ts.length ≤ 200) : axR ts = ((axGo ts).1, ((axGo ts).2.2 : Int)) := by
  rw [axR, if_pos ⟨hl, List.all_eq_true.2 fun t ht => drT_ok (h t ht)⟩]
theorem ax_law {ts : List Tel} (h : ∀ t ∈ ts, drT t) (hl : ts.length ≤ 20) : ∃ (c : Int) (n : Nat), axR ts = (c, (n : Int)) ∧ -1 ≤ c ∧ c ≤ 5100 ∧ n ≤ ts.length ∧ axR (dbl ts) = (c, ((n + ts.length : Nat) : Int)) ∧
    ∀ q, q = (match ts.getLast? with | some t => (t.1 + 1) % 256 | none => 0) → 0 ≤ q ∧ q ≤ 255 ∧ axR (ts ++ [(q, 1, [])]) = (c, (n : Int)) ∧ (axR (ts ++ [(q, 3, [])])).1 = 0 := by
  obtain ⟨i1, i2, i3, i4⟩ := ax_inv h 0 (0, 255, 0) 0 (by omega) ⟨by simp, by simp, by simp, by simp⟩
  have hsq := ax_seq h (0, 255, 0) (by simp)
  have hgo : axGo ts = ts.foldl axStep (0, 255, 0) := rfl
  rw [← hgo] at i1 i2 i3 i4 hsq
  have hd : axGo (dbl ts) = (dbl ts).foldl axStep (0, 255, 0) := rfl
  simp only [] at i4 i3 hsq
  rw [← hd] at i4
  refine ⟨(axGo ts).1, (axGo ts).2.2, axR_dr h (by omega), i1.1, by have := i1.2.1; omega, by omega, ?_, fun q hq => ?_⟩
  · rw [axR_dr (dbl_ok h) (by rw [dbl_len]; omega), i4]
    refine Prod.ext rfl ?_
    show (((0 + ts.length + ((axGo ts).2.2 - 0) : Nat) : Int)) = _
    congr 1
    omega
  · have hq' : 0 ≤ q ∧ q ≤ 255 ∧ q = ((axGo ts).2.1 + 1) % 256 := by
      rw [hsq]
      cases hg : ts.getLast? with
      | none => rw [hg] at hq; simp only [] at hq ⊢; omega
      | some t => rw [hg] at hq; simp only [] at hq ⊢; omega
    obtain ⟨q1, q2, q3⟩ := hq'
    have hacc : accR (axGo ts).2.1 q = 0 := by rw [q3]; exact acc_next i1.2.2.1 i1.2.2.2
    have hm : ∀ kind : Int, 0 ≤ kind → kind ≤ 15 → ∀ t ∈ ts ++ [((q, kind, []) : Tel)], drT t := fun kind h0 h1 t ht => by
      rcases List.mem_append.1 ht with ht | ht
      · exact h t ht
      · simp only [List.mem_singleton] at ht
        subst ht
        exact ⟨q1, q2, h0, h1, by simp, fun x hx => by cases hx⟩
    have hst : ∀ kind : Int, axGo (ts ++ [((q, kind, []) : Tel)]) = (cntR (axGo ts).1 kind [], q, (axGo ts).2.2) := fun kind => by
      have : axGo (ts ++ [((q, kind, []) : Tel)]) = axStep (axGo ts) (q, kind, []) := by rw [axGo, List.foldl_append]; rfl
      rw [this, axStep]
      simp only [hacc]
      rfl
    refine ⟨q1, q2, ?_, ?_⟩
    · rw [axR_dr (hm 1 (by omega) (by omega)) (by simp; omega), hst]
      have hw : IntKind.i64.wrap ((axGo ts).1 + 0) = (axGo ts).1 + 0 := by have := i1.1; have := i1.2.1; exact wrap64 (by omega) (by omega)
      have : cntR (axGo ts).1 1 [] = (axGo ts).1 := by
        rw [cntR, cntN, if_neg (by simp), cntS, if_neg (by omega), hw]
        split <;> simp
      rw [this]
    · rw [axR_dr (hm 3 (by omega) (by omega)) (by simp; omega), hst]
      simp [cntR, cntS]
end Go.Proofs.YtiajbefljkikiaaDoor.AX
namespace Go.Proofs.YtiajbefljkikiaaDoor.AX
open Go
set_option maxRecDepth 10000
set_option maxHeartbeats 4000000
set_option linter.unusedSimpArgs false
set_option linter.unusedVariables false
section
variable {B : Heap} {v : Value} {code : List Int} {p : Nat} {H : Heap}
theorem ints_lit {xs : List Int} : Ints (H.push (xs.map (Value.int .i64))) (.slice (some ⟨H.nxt, 0, none⟩) xs.length 1) xs :=
  sl_own (by rw [Zbg]; omega) (by rw [push_get', if_pos rfl]) (by simp)
theorem GP.set {α : Type} {r : Rep α} {H1 : Heap} {w : Value} {xs : List α} {F : List Nat} {q : Nat} {cs : List Value} (h : GP r B v code p H H1 w xs F) (hq : H.nxt ≤ q) (hF : q ∉ F) : GP r B v code p H (H1.set q cs) w xs F :=
  have pl := h.pl
  ⟨⟨by rw [Zbh]; exact h.chg.nxt, fun a ha hm => by rw [Zbi, if_neg (by omega)]; exact h.chg.get a ha hm⟩, cur_ch (G := [q]) h.cur (by rw [Zbh]; exact Nat.le_refl _) (fun a ha hm => by rw [Zbi, if_neg (by simpa using hm)]) (fun a ha => by simp at ha; have := h.cur.2.1; omega) (by simp; omega), pl, (rSlc r).ownk h.o (by rw [Zbh]; exact Nat.le_refl _) (fun a ha => by rw [Zbi, if_neg (fun e => by subst e; exact hF ha)]), h.nd, h.fr⟩
theorem r_spec_l20DrawList (hb : Bts' B v code) (hl : code.length ≤ 1048576) (hc : ∀ x ∈ code, 0 ≤ x ∧ x ≤ 255) (c : Cur B v code H p) (kB : Keep B H) : Run Tryd.prog 36 [ptr p 0, v] H fun r H' => Chg [p] H H' ∧ Cur B v code H' p ∧ ∃ ts F, (rSlc rTelegram).own H' [r] ts F ∧ F.Nodup ∧ (∀ a ∈ F, H.nxt ≤ a) ∧ (∀ t ∈ ts, drT t) ∧ ts.length ≤ 17 := by
  refine Run.intro c36 rfl ?_
  simp (maxSteps := 4000000) (disch := omega) only [Zq, evO, vbox, wr, Zeq, if_true, if_false, Nat.reduceEqDiff, Nat.reduceAdd, Nat.reduceLeDiff, Nat.reduceSub, and_self, and_true, true_and, reduceIte, reduceCtorEq, eq_self, implies_true, forall_const, false_implies, imp_self, decide_true, decide_false, x36]
  have gp0 := GP.new (r := rTelegram) (sz := 3) c rfl
  generalize hG1 : H.push [] = H1 at gp0
  have k1 : Keep H H1 := by rw [← hG1]; exact Keep.push _ _
  have n1 : H1.nxt = H.nxt + 1 := by rw [← hG1, Zbg]
  refine GO_call ((r_spec_l01Size (n := 16) (IntsK.keep hb (kB.trans k1)) hl (by omega)).mono ?_)
  rintro _ H2 ⟨k2, z2, hz2, rfl⟩
  have n2 := k2.nxt
  have gp2 := gp0.keep k2
  have hw : IntKind.i64.wrap (2 + (z2 : Int)) = ((2 + z2 : Nat) : Int) := by rw [wrap64 (by omega) (by omega)]; omega
  simp (maxSteps := 4000000) (disch := omega) only [Zq, evO, vbox, wr, Zeq, if_true, if_false, Nat.reduceEqDiff, Nat.reduceAdd, Nat.reduceLeDiff, Nat.reduceSub, and_self, and_true, true_and, reduceIte, reduceCtorEq, eq_self, implies_true, forall_const, false_implies, imp_self, decide_true, decide_false, fix_nil, fix_cons, hw]
  refine GO_call ((r_spec_l01Below hb hl hc gp2.cur (by omega : 1 ≤ 2 + z2) (by omega)).mono ?_)
  rintro _ H3 ⟨c3, u3, z3, rfl, hz3⟩
  have gp3 := gp2.mv c3 u3
  simp (maxSteps := 4000000) (disch := omega) only [Zq, evO, vbox, wr, Zeq, if_true, if_false, Nat.reduceEqDiff, Nat.reduceAdd, Nat.reduceLeDiff, Nat.reduceSub, and_self, and_true, true_and, reduceIte, reduceCtorEq, eq_self, implies_true, forall_const, false_implies, imp_self, decide_true, decide_false, fix_nil, fix_cons]
  refine G_loopF [0] (z3) (fun k T H4 => T 7 = .int .i64 (k : Int) ∧ ∃ (w : Value) (ts : List Tel) (F : List Nat) (s : Nat), T 5 = w ∧ T 6 = .int .i64 (s : Int) ∧ s ≤ 255 ∧ GP rTelegram B v code p H H4 w ts F ∧ (∀ t ∈ ts, drT t) ∧ ts.length + k ≤ 17) ?_ ?_
  · simp (maxSteps := 4000000) (disch := omega) only [Zq, evO, vbox, wr, Zeq, if_true, if_false, Nat.reduceEqDiff, Nat.reduceAdd, Nat.reduceLeDiff, Nat.reduceSub, and_self, and_true, true_and, reduceIte, reduceCtorEq, eq_self, implies_true, forall_const, false_implies, imp_self, decide_true, decide_false, fix_nil, fix_cons]
    exact ⟨_, [], _, 0, rfl, rfl, by omega, gp3, fun t ht => (by cases ht), by simp; omega⟩
  rintro k T H4 hT ⟨t7, w, ts, F, s, t5, t6, hs, gp4, hts, hlen⟩
  simp only [fix_nil, fix_cons, Zq, evO, vbox, wr, Zeq, if_true, if_false, Nat.reduceEqDiff, Nat.reduceAdd, Nat.reduceLeDiff, Nat.reduceSub, and_self, and_true, true_and, reduceIte, reduceCtorEq, eq_self, implies_true, forall_const, false_implies, imp_self, decide_true, decide_false] at hT
  have t0 := hT
  by_cases hk : (0 : Int) < k
  rotate_left
  · obtain ⟨x1, x2⟩ := slc_cell ((rSlc rTelegram).ownrd gp4.o)
    simp (maxSteps := 4000000) (disch := omega) only [Zq, evO, vbox, wr, Zeq, if_true, if_false, Nat.reduceEqDiff, Nat.reduceAdd, Nat.reduceLeDiff, Nat.reduceSub, and_self, and_true, true_and, reduceIte, reduceCtorEq, eq_self, implies_true, forall_const, false_implies, imp_self, decide_true, decide_false, fix_nil, fix_cons, t0, t7, t5, t6, Zfi hk, x1, x2]
    exact ⟨gp4.chg, gp4.cur, ts, F, gp4.o, gp4.nd, gp4.fr, hts, by omega⟩
  simp (maxSteps := 4000000) (disch := omega) only [Zq, evO, vbox, wr, Zeq, if_true, if_false, Nat.reduceEqDiff, Nat.reduceAdd, Nat.reduceLeDiff, Nat.reduceSub, and_self, and_true, true_and, reduceIte, reduceCtorEq, eq_self, implies_true, forall_const, false_implies, imp_self, decide_true, decide_false, fix_nil, fix_cons, t0, t7, t5, t6, Zfh hk]
  refine GO_call ((r_spec_l01Below (n := 6) hb hl hc gp4.cur (by omega) (by omega)).mono ?_)
  rintro _ H5 ⟨c5, u5, z5, rfl, hz5⟩
  have gp5 := gp4.mv c5 u5
  simp (maxSteps := 4000000) (disch := omega) only [Zq, evO, vbox, wr, Zeq, if_true, if_false, Nat.reduceEqDiff, Nat.reduceAdd, Nat.reduceLeDiff, Nat.reduceSub, and_self, and_true, true_and, reduceIte, reduceCtorEq, eq_self, implies_true, forall_const, false_implies, imp_self, decide_true, decide_false, fix_nil, fix_cons, t0, t7, t5, t6]
  obtain ⟨xs, hxs⟩ : ∃ xs : List Int, xs = [1, 1, 1, 2, 2, 2, 3, (z5 : Int)] := ⟨_, rfl⟩
  have hI : Ints (H5.push (xs.map (Value.int .i64))) (.slice (some ⟨H5.nxt, 0, none⟩) xs.length 1) xs := ints_lit
  have hx8 : xs.length = 8 := by rw [hxs]; rfl
  have hxb : ∀ x ∈ xs, 0 ≤ x ∧ x ≤ 15 := by rw [hxs]; intro x hx; simp at hx; omega
  have hmap : xs.map (Value.int .i64) = [.int .i64 1, .int .i64 1, .int .i64 1, .int .i64 2, .int .i64 2, .int .i64 2, .int .i64 3, .int .i64 z5] := by rw [hxs]; rfl
  rw [hx8] at hI
  rw [hmap] at hI
  generalize hG6 : H5.push [Value.int .i64 1, .int .i64 1, .int .i64 1, .int .i64 2, .int .i64 2, .int .i64 2, .int .i64 3, .int .i64 z5] = H6 at hI
  have k6 : Keep H5 H6 := by rw [← hG6]; exact Keep.push _ _
  have gp6 := gp5.keep k6
  have pl5 := gp5.cur.2.2.1
  refine GO_call ((r_spec_l01PickInt hb hl hc gp6.cur hI (by show H5.nxt ≠ p; omega) (by omega) (by omega)).mono ?_)
  rintro _ H7 ⟨c7, u7, z7, hz7, rfl⟩
  have gp7 := gp6.mv c7 u7
  have hkd := hxb (xs.getD z7 0) (by rw [getD_get _ _ hz7]; exact List.getElem_mem hz7)
  generalize xs.getD z7 0 = kd at hkd
  clear hI hG6 hmap hxb hx8 hz7
  simp (maxSteps := 4000000) (disch := omega) only [Zq, evO, vbox, wr, Zeq, if_true, if_false, Nat.reduceEqDiff, Nat.reduceAdd, Nat.reduceLeDiff, Nat.reduceSub, and_self, and_true, true_and, reduceIte, reduceCtorEq, eq_self, implies_true, forall_const, false_implies, imp_self, decide_true, decide_false, fix_nil, fix_cons, t0, t7, t5, t6]
  generalize hG8 : (H7.push [.int .i64 0, .int .i64 0, .slice none 0 0]).set H7.nxt [.int .i64 s, .int .i64 kd, .slice none 0 0] = H8
  have k8 : Keep H7 H8 := by rw [← hG8]; repeat' (first | exact Keep.refl _ | assumption | refine Keep.push' ?_ | refine Keep.set' ?_ ?_ | refine Keep.moved' ?_ ?_ | omega)
  have g8 : H8.get H7.nxt = some (.own [.int .i64 s, .int .i64 kd, .slice none 0 0]) := by rw [← hG8, Zbi, if_pos rfl]
  have n8 : H8.nxt = H7.nxt + 1 := by rw [← hG8, Zbh, Zbg]
  have gp8 := gp7.keep k8
  refine GO_call ((r_spec_l01Once (n := 9) hb hl hc gp8.cur (by omega) (by omega)).mono ?_)
  rintro _ H9 ⟨c9, u9, on, rfl⟩
  have gp9 := gp8.mv c9 u9
  have pl7 := gp7.cur.2.2.1
  have g9 := (c9.get H7.nxt (by omega) (by simp; omega)).trans g8
  have n9 := c9.nxt
  have hF7 : ∀ a ∈ F, a < H7.nxt := (rSlc rTelegram).ownlt gp7.o
  have nn := gp7.chg.nxt
  simp (maxSteps := 4000000) (disch := omega) only [Zq, evO, vbox, wr, Zeq, if_true, if_false, Nat.reduceEqDiff, Nat.reduceAdd, Nat.reduceLeDiff, Nat.reduceSub, and_self, and_true, true_and, reduceIte, reduceCtorEq, eq_self, implies_true, forall_const, false_implies, imp_self, decide_true, decide_false, fix_nil, fix_cons, t0, t7, t5, t6, g8, g9]
  first | refine cK_cut (fun T HE => T 0 = ptr p 0 ∧ T 5 = w ∧ T 6 = .int .i64 (s : Int) ∧ T 7 = .int .i64 (k : Int) ∧ T 8 = ptr H7.nxt 0 ∧ GP rTelegram B v code p H HE w ts F ∧ ∃ bv body G, HE.get H7.nxt = some (.own [.int .i64 s, .int .i64 kd, bv]) ∧ (rSlc rByte).own HE [bv] body G ∧ G.Nodup ∧ (∀ a ∈ G, H7.nxt < a) ∧ body.length ≤ 1 ∧ (∀ x ∈ body, 0 ≤ x ∧ x ≤ 255) ∧ noTup bv = true ∧ vcells bv = [bv]) ?_ ?_ | refine G_cut (fun T HE => T 0 = ptr p 0 ∧ T 5 = w ∧ T 6 = .int .i64 (s : Int) ∧ T 7 = .int .i64 (k : Int) ∧ T 8 = ptr H7.nxt 0 ∧ GP rTelegram B v code p H HE w ts F ∧ ∃ bv body G, HE.get H7.nxt = some (.own [.int .i64 s, .int .i64 kd, bv]) ∧ (rSlc rByte).own HE [bv] body G ∧ G.Nodup ∧ (∀ a ∈ G, H7.nxt < a) ∧ body.length ≤ 1 ∧ (∀ x ∈ body, 0 ≤ x ∧ x ≤ 255) ∧ noTup bv = true ∧ vcells bv = [bv]) ?_ ?_ | refine GO_cut (fun T HE => T 0 = ptr p 0 ∧ T 5 = w ∧ T 6 = .int .i64 (s : Int) ∧ T 7 = .int .i64 (k : Int) ∧ T 8 = ptr H7.nxt 0 ∧ GP rTelegram B v code p H HE w ts F ∧ ∃ bv body G, HE.get H7.nxt = some (.own [.int .i64 s, .int .i64 kd, bv]) ∧ (rSlc rByte).own HE [bv] body G ∧ G.Nodup ∧ (∀ a ∈ G, H7.nxt < a) ∧ body.length ≤ 1 ∧ (∀ x ∈ body, 0 ≤ x ∧ x ≤ 255) ∧ noTup bv = true ∧ vcells bv = [bv]) ?_ ?_
  · cases on with
    | true =>
      simp (maxSteps := 4000000) (disch := omega) only [Zq, evO, vbox, wr, Zeq, if_true, if_false, Nat.reduceEqDiff, Nat.reduceAdd, Nat.reduceLeDiff, Nat.reduceSub, and_self, and_true, true_and, reduceIte, reduceCtorEq, eq_self, implies_true, forall_const, false_implies, imp_self, decide_true, decide_false, fix_nil, fix_cons, t0, t7, t5, t6, g8, g9]
      exact ⟨gp9, _, [], [], rfl, .inl ⟨rfl, rfl, rfl⟩, by simp, by simp, by simp, by simp, rfl, rfl⟩
    | false =>
      simp (maxSteps := 4000000) (disch := omega) only [Zq, evO, vbox, wr, Zeq, if_true, if_false, Nat.reduceEqDiff, Nat.reduceAdd, Nat.reduceLeDiff, Nat.reduceSub, and_self, and_true, true_and, reduceIte, reduceCtorEq, eq_self, implies_true, forall_const, false_implies, imp_self, decide_true, decide_false, fix_nil, fix_cons, t0, t7, t5, t6, g8, g9]
      simp (maxSteps := 4000000) (disch := omega) only [ZD, Zio, Zip, pre_, beq_self_eq_true, Nat.reduceBEq, Zq, evO, vbox, wr, Zeq, if_true, if_false, Nat.reduceEqDiff, Nat.reduceAdd, Nat.reduceLeDiff, Nat.reduceSub, and_self, and_true, true_and, reduceIte, reduceCtorEq, eq_self, implies_true, forall_const, false_implies, imp_self, decide_true, decide_false, fix_nil, fix_cons, t0, t7, t5, t6, g8, g9, G_dreg]
      refine GD_call ((r_spec_l01Below (n := 9) hb hl hc gp9.cur (by omega) (by omega)).mono ?_)
      rintro _ H10 ⟨c10, u10, z10, rfl, hz10⟩
      have pl9 := gp9.cur.2.2.1
      have g10 := (c10.get H7.nxt (by omega) (by simp; omega)).trans g9
      have gp10 := gp9.mv c10 u10
      have n10 := c10.nxt
      have hu : IntKind.u8.wrap (z10 : Int) = (z10 : Int) := by rw [wrap8, Nat.mod_eq_of_lt (by omega)]
      obtain ⟨u, H11, F11, e11, o11, c11, f11, nd11, _⟩ := own_app (bytes := 1) (r := rByte) (sz := 1) rfl (by omega) (xs := []) (F := []) (H := H10) (v := .slice none 0 0) (.inl ⟨rfl, rfl, rfl⟩) (row := [.int .u8 z10]) (y := (z10 : Int)) (G := []) ⟨rfl, rfl⟩ (by simp) (by simp) (by simp) (by simp)
      have n11 := c11.nxt
      have k11 : Keep H10 H11 := ⟨n11, fun a ha => c11.get a ha (by simp)⟩
      have gp11 := gp10.keep k11
      have g11 := (k11.get H7.nxt (by omega)).trans g10
      obtain ⟨x1, x2⟩ := slc_cell ((rSlc rByte).ownrd o11)
      have f11' : ∀ a ∈ F11, H7.nxt < a := fun a ha => by
        rcases f11 a ha with h | h | h
        · cases h
        · cases h
        · omega
      simp (maxSteps := 4000000) (disch := omega) only [ZD, Zio, Zip, pre_, beq_self_eq_true, Nat.reduceBEq, Zq, evO, vbox, wr, Zeq, if_true, if_false, Nat.reduceEqDiff, Nat.reduceAdd, Nat.reduceLeDiff, Nat.reduceSub, and_self, and_true, true_and, reduceIte, reduceCtorEq, eq_self, implies_true, forall_const, false_implies, imp_self, decide_true, decide_false, fix_nil, fix_cons, t0, t7, t5, t6, g8, g9, g10, g11, GD_app, hu, e11, x1, x2]
      first | with_reducible refine And.intro (by repeat' (first | apply And.intro | omega | exact c11.get _ (by omega))) ?_ | skip
      have gpE := gp11.set (q := H7.nxt) (cs := [.int .i64 s, .int .i64 kd, u]) nn (fun h => by have := hF7 _ h; omega)
      exact ⟨gpE, u, [(z10 : Int)], F11, rfl, (rSlc rByte).ownk o11 (by rw [Zbh]; exact Nat.le_refl _) (fun a ha => by rw [Zbi, if_neg (by have := f11' a ha; omega)]), nd11, f11', by simp, by simp; omega, x2, x1⟩
  rintro T HE ⟨t0, t5, t6, t7, t8, gpE, bv, body, G, gE, oB, ndG, hG, hbl, hbx, nb, vb⟩
  have nE := gpE.chg.nxt
  obtain ⟨u, H12, F12, e12, gp12, n12, old12⟩ := gpE.app (bytes := 40) (sz := 3) rfl (by omega) (row := [.int .i64 s, .int .i64 kd, bv]) (y := ((s : Int), kd, body)) (G := G) (telegram_own' oB) ndG (fun a ha => ⟨by have := hG a ha; omega, fun h => by have := hG a ha; have := hF7 a h; omega⟩) (by omega)
  simp (maxSteps := 4000000) (disch := omega) only [Zq, evO, vbox, wr, Zeq, if_true, if_false, Nat.reduceEqDiff, Nat.reduceAdd, Nat.reduceLeDiff, Nat.reduceSub, and_self, and_true, true_and, reduceIte, reduceCtorEq, eq_self, implies_true, forall_const, false_implies, imp_self, decide_true, decide_false, fix_nil, fix_cons, t0, t7, t5, t6, g8, g9, t8, gE, e12]
  obtain ⟨ys, hys⟩ : ∃ ys : List Int, ys = [1, 1, 1, 1, 1, 1, 0, 2] := ⟨_, rfl⟩
  have hJ : Ints (H12.push (ys.map (Value.int .i64))) (.slice (some ⟨H12.nxt, 0, none⟩) ys.length 1) ys := ints_lit
  have hy8 : ys.length = 8 := by rw [hys]; rfl
  have hyb : ∀ x ∈ ys, 0 ≤ x ∧ x ≤ 2 := by rw [hys]; intro x hx; simp at hx; omega
  have hmap : ys.map (Value.int .i64) = [.int .i64 1, .int .i64 1, .int .i64 1, .int .i64 1, .int .i64 1, .int .i64 1, .int .i64 0, .int .i64 2] := by rw [hys]; rfl
  rw [hy8] at hJ
  rw [hmap] at hJ
  generalize hG13 : H12.push [Value.int .i64 1, .int .i64 1, .int .i64 1, .int .i64 1, .int .i64 1, .int .i64 1, .int .i64 0, .int .i64 2] = H13 at hJ
  have k13 : Keep H12 H13 := by rw [← hG13]; exact Keep.push _ _
  have gp13 := gp12.keep k13
  have pl12 := gp12.cur.2.2.1
  refine GO_call ((r_spec_l01PickInt hb hl hc gp13.cur hJ (by show H12.nxt ≠ p; omega) (by omega) (by omega)).mono ?_)
  rintro _ H14 ⟨c14, u14, z14, hz14, rfl⟩
  have gp14 := gp13.mv c14 u14
  have hyd := hyb (ys.getD z14 0) (by rw [getD_get _ _ hz14]; exact List.getElem_mem hz14)
  obtain ⟨e, he⟩ : ∃ e : Nat, ys.getD z14 0 = e := ⟨(ys.getD z14 0).toNat, by omega⟩
  rw [he] at hyd ⊢
  have hw1 : IntKind.i64.wrap ((s : Int) + e) = ((s + e : Nat) : Int) := by rw [wrap64 (by omega) (by omega)]; omega
  have hr : abin .rem (.int .i64 ((s + e : Nat) : Int)) (.int .i64 256) = some (.int .i64 (((s + e) % 256 : Nat) : Int)) := by
    rw [abin_rem (by decide), Int.tmod_eq_emod_of_nonneg (by omega)]; rfl
  have hw2 : IntKind.i64.wrap ((k : Int) - 1) = ((k - 1 : Nat) : Int) := by rw [wrap64 (by omega) (by omega)]; omega
  simp (maxSteps := 4000000) (disch := omega) only [Zq, evO, vbox, wr, Zeq, if_true, if_false, Nat.reduceEqDiff, Nat.reduceAdd, Nat.reduceLeDiff, Nat.reduceSub, and_self, and_true, true_and, reduceIte, reduceCtorEq, eq_self, implies_true, forall_const, false_implies, imp_self, decide_true, decide_false, fix_nil, fix_cons, t0, t7, t5, t6, g8, g9, t8, hw1, hr, hw2]
  exact ⟨k - 1, by omega, rfl, _, _, _, _, rfl, rfl, by omega, gp14, fun t ht => by
    rcases List.mem_append.1 ht with ht | ht
    · exact hts t ht
    · simp only [List.mem_singleton] at ht
      subst ht
      exact ⟨by omega, by omega, hkd.1, hkd.2, hbl, hbx⟩, by simp; omega⟩
theorem r_spec_DrawRightTelegrams (hb : Bts' H v code) (hl : code.length ≤ 1048576) (hc : ∀ x ∈ code, 0 ≤ x ∧ x ≤ 255) : Run Tryd.prog 23 [v] H fun r H' => Keep H H' ∧ ∃ ts, (rSlc rTelegram).rd H' [r] ts ∧ (∀ t ∈ ts, drT t) ∧ ts.length ≤ 17 := by
  refine Run.intro c23 rfl ?_
  simp (maxSteps := 4000000) (disch := omega) only [Zq, evO, vbox, wr, Zeq, if_true, if_false, Nat.reduceEqDiff, Nat.reduceAdd, Nat.reduceLeDiff, Nat.reduceSub, and_self, and_true, true_and, reduceIte, reduceCtorEq, eq_self, implies_true, forall_const, false_implies, imp_self, decide_true, decide_false, x23]
  refine GO_call ((r_spec_l01New hb hl (Keep.refl H)).mono ?_)
  rintro _ H1 ⟨k1, p, rfl, hp, cu⟩
  simp (maxSteps := 4000000) (disch := omega) only [Zq, evO, vbox, wr, Zeq, if_true, if_false, Nat.reduceEqDiff, Nat.reduceAdd, Nat.reduceLeDiff, Nat.reduceSub, and_self, and_true, true_and, reduceIte, reduceCtorEq, eq_self, implies_true, forall_const, false_implies, imp_self, decide_true, decide_false, fix_nil, fix_cons]
  refine GO_call ((r_spec_l20DrawList hb hl hc cu k1).mono ?_)
  rintro r H2 ⟨c2, u2, ts, F, o2, nd, f2, hts, hlen⟩
  obtain ⟨x1, x2⟩ := slc_cell ((rSlc rTelegram).ownrd o2)
  simp (maxSteps := 4000000) (disch := omega) only [Zq, evO, vbox, wr, Zeq, if_true, if_false, Nat.reduceEqDiff, Nat.reduceAdd, Nat.reduceLeDiff, Nat.reduceSub, and_self, and_true, true_and, reduceIte, reduceCtorEq, eq_self, implies_true, forall_const, false_implies, imp_self, decide_true, decide_false, fix_nil, fix_cons, x1, x2]
  exact ⟨c2.keep k1 (fun i hi => by simp at hi; omega), ts, (rSlc rTelegram).ownrd o2, hts, hlen⟩
end
end Go.Proofs.YtiajbefljkikiaaDoor.AX
namespace Go.Proofs.YtiajbefljkikiaaDoor.AX
open Go
set_option maxRecDepth 10000
set_option maxHeartbeats 4000000
set_option linter.unusedSimpArgs false
set_option linter.unusedVariables false
theorem r_spec_Accept (last seq : Int) (H : Heap) : Run Tryd.prog 40 [.int .i64 last, .int .i64 seq] H fun r H' => Keep H H' ∧ r = .int .i64 (accR last seq) := by
  refine Run.intro c40 rfl ?_
  simp (maxSteps := 4000000) (disch := omega) only [Zq, evO, vbox, wr, Zeq, if_true, if_false, Nat.reduceEqDiff, Nat.reduceAdd, Nat.reduceLeDiff, Nat.reduceSub, and_self, and_true, true_and, reduceIte, reduceCtorEq, eq_self, implies_true, forall_const, false_implies, imp_self, decide_true, decide_false, x40]
  refine GO_call ((r_spec_l01In last 0 255 _).mono ?_)
  rintro _ H1 ⟨k1, rfl⟩
  have n1 := k1.nxt
  by_cases ha : inR 0 255 last = true
  · simp (maxSteps := 4000000) (disch := omega) only [Zq, evO, vbox, wr, Zeq, if_true, if_false, Nat.reduceEqDiff, Nat.reduceAdd, Nat.reduceLeDiff, Nat.reduceSub, and_self, and_true, true_and, reduceIte, reduceCtorEq, eq_self, implies_true, forall_const, false_implies, imp_self, decide_true, decide_false, fix_nil, fix_cons, ha]
    refine GO_call ((r_spec_l01In seq 0 255 _).mono ?_)
    rintro _ H2 ⟨k2, rfl⟩
    have n2 := k2.nxt
    by_cases hb : inR 0 255 seq = true
    · have hl := inR_iff.1 ha
      by_cases h1 : seq = (last + 1).tmod 256
      · simp (maxSteps := 4000000) (disch := omega) only [Zq, evO, vbox, wr, Zeq, if_true, if_false, Nat.reduceEqDiff, Nat.reduceAdd, Nat.reduceLeDiff, Nat.reduceSub, and_self, and_true, true_and, reduceIte, reduceCtorEq, eq_self, implies_true, forall_const, false_implies, imp_self, decide_true, decide_false, fix_nil, fix_cons, hb, wrap64, abin_rem]
        exact ⟨k1.trans k2, by rw [accR_ok ha hb, if_pos h1]⟩
      · by_cases h2 : seq = last
        · simp (maxSteps := 4000000) (disch := omega) only [Zq, evO, vbox, wr, Zeq, if_true, if_false, Nat.reduceEqDiff, Nat.reduceAdd, Nat.reduceLeDiff, Nat.reduceSub, and_self, and_true, true_and, reduceIte, reduceCtorEq, eq_self, implies_true, forall_const, false_implies, imp_self, decide_true, decide_false, fix_nil, fix_cons, hb, wrap64, abin_rem]
          exact ⟨k1.trans k2, by rw [accR_ok ha hb, if_neg h1, if_pos h2]⟩
        · simp (maxSteps := 4000000) (disch := omega) only [Zq, evO, vbox, wr, Zeq, if_true, if_false, Nat.reduceEqDiff, Nat.reduceAdd, Nat.reduceLeDiff, Nat.reduceSub, and_self, and_true, true_and, reduceIte, reduceCtorEq, eq_self, implies_true, forall_const, false_implies, imp_self, decide_true, decide_false, fix_nil, fix_cons, hb, wrap64, abin_rem]
          exact ⟨k1.trans k2, by rw [accR_ok ha hb, if_neg h1, if_neg h2]⟩
    · have hb' : inR 0 255 seq = false := by simpa using hb
      simp (maxSteps := 4000000) (disch := omega) only [Zq, evO, vbox, wr, Zeq, if_true, if_false, Nat.reduceEqDiff, Nat.reduceAdd, Nat.reduceLeDiff, Nat.reduceSub, and_self, and_true, true_and, reduceIte, reduceCtorEq, eq_self, implies_true, forall_const, false_implies, imp_self, decide_true, decide_false, fix_nil, fix_cons, hb']
      exact ⟨k1.trans k2, by rw [accR_bad (.inr hb')]⟩
  · have ha' : inR 0 255 last = false := by simpa using ha
    simp (maxSteps := 4000000) (disch := omega) only [Zq, evO, vbox, wr, Zeq, if_true, if_false, Nat.reduceEqDiff, Nat.reduceAdd, Nat.reduceLeDiff, Nat.reduceSub, and_self, and_true, true_and, reduceIte, reduceCtorEq, eq_self, implies_true, forall_const, false_implies, imp_self, decide_true, decide_false, fix_nil, fix_cons, ha']
    exact ⟨k1, by rw [accR_bad (.inl ha')]⟩
theorem r_impl_Accept (last seq : Int) (H : Heap) : Run Tryd.prog 37 [.int .i64 last, .int .i64 seq] H fun r H' => Keep H H' ∧ r = .int .i64 (accR last seq) := by
  refine Run.intro c37 rfl ?_
  simp (maxSteps := 4000000) (disch := omega) only [Zq, evO, vbox, wr, Zeq, if_true, if_false, Nat.reduceEqDiff, Nat.reduceAdd, Nat.reduceLeDiff, Nat.reduceSub, and_self, and_true, true_and, reduceIte, reduceCtorEq, eq_self, implies_true, forall_const, false_implies, imp_self, decide_true, decide_false, x37]
  refine GO_call ((r_impl_between last 0 255 _).mono ?_)
  rintro _ H1 ⟨k1, rfl⟩
  have n1 := k1.nxt
  by_cases ha : inR 0 255 last = true
  · simp (maxSteps := 4000000) (disch := omega) only [Zq, evO, vbox, wr, Zeq, if_true, if_false, Nat.reduceEqDiff, Nat.reduceAdd, Nat.reduceLeDiff, Nat.reduceSub, and_self, and_true, true_and, reduceIte, reduceCtorEq, eq_self, implies_true, forall_const, false_implies, imp_self, decide_true, decide_false, fix_nil, fix_cons, ha]
    refine GO_call ((r_impl_between seq 0 255 _).mono ?_)
    rintro _ H2 ⟨k2, rfl⟩
    have n2 := k2.nxt
    by_cases hb : inR 0 255 seq = true
    · have hl := inR_iff.1 ha
      by_cases h1 : seq = (last + 1).tmod 256
      · simp (maxSteps := 4000000) (disch := omega) only [Zq, evO, vbox, wr, Zeq, if_true, if_false, Nat.reduceEqDiff, Nat.reduceAdd, Nat.reduceLeDiff, Nat.reduceSub, and_self, and_true, true_and, reduceIte, reduceCtorEq, eq_self, implies_true, forall_const, false_implies, imp_self, decide_true, decide_false, fix_nil, fix_cons, hb, wrap64, abin_rem]
        exact ⟨k1.trans k2, by rw [accR_ok ha hb, if_pos h1]⟩
      · by_cases h2 : seq = last
        · simp (maxSteps := 4000000) (disch := omega) only [Zq, evO, vbox, wr, Zeq, if_true, if_false, Nat.reduceEqDiff, Nat.reduceAdd, Nat.reduceLeDiff, Nat.reduceSub, and_self, and_true, true_and, reduceIte, reduceCtorEq, eq_self, implies_true, forall_const, false_implies, imp_self, decide_true, decide_false, fix_nil, fix_cons, hb, wrap64, abin_rem]
          exact ⟨k1.trans k2, by rw [accR_ok ha hb, if_neg h1, if_pos h2]⟩
        · simp (maxSteps := 4000000) (disch := omega) only [Zq, evO, vbox, wr, Zeq, if_true, if_false, Nat.reduceEqDiff, Nat.reduceAdd, Nat.reduceLeDiff, Nat.reduceSub, and_self, and_true, true_and, reduceIte, reduceCtorEq, eq_self, implies_true, forall_const, false_implies, imp_self, decide_true, decide_false, fix_nil, fix_cons, hb, wrap64, abin_rem]
          exact ⟨k1.trans k2, by rw [accR_ok ha hb, if_neg h1, if_neg h2]⟩
    · have hb' : inR 0 255 seq = false := by simpa using hb
      simp (maxSteps := 4000000) (disch := omega) only [Zq, evO, vbox, wr, Zeq, if_true, if_false, Nat.reduceEqDiff, Nat.reduceAdd, Nat.reduceLeDiff, Nat.reduceSub, and_self, and_true, true_and, reduceIte, reduceCtorEq, eq_self, implies_true, forall_const, false_implies, imp_self, decide_true, decide_false, fix_nil, fix_cons, hb']
      exact ⟨k1.trans k2, by rw [accR_bad (.inr hb')]⟩
  · have ha' : inR 0 255 last = false := by simpa using ha
    simp (maxSteps := 4000000) (disch := omega) only [Zq, evO, vbox, wr, Zeq, if_true, if_false, Nat.reduceEqDiff, Nat.reduceAdd, Nat.reduceLeDiff, Nat.reduceSub, and_self, and_true, true_and, reduceIte, reduceCtorEq, eq_self, implies_true, forall_const, false_implies, imp_self, decide_true, decide_false, fix_nil, fix_cons, ha']
    exact ⟨k1, by rw [accR_bad (.inl ha')]⟩
theorem r_impl_counted {H : Heap} {c a b : Int} {v : Value} {l : List Int} (h : (rSlc rByte).rd H [v] l) : Run Tryd.prog 38 [.int .i64 c, .agg #[.int .i64 a, .int .i64 b, v]] H fun r H' => Keep H H' ∧ r = .int .i64 (cntR c b l) := by
  have hs := bts_of h
  refine Run.intro c38 rfl ?_
  simp (maxSteps := 4000000) (disch := omega) only [Zq, evO, vbox, wr, Zeq, if_true, if_false, Nat.reduceEqDiff, Nat.reduceAdd, Nat.reduceLeDiff, Nat.reduceSub, and_self, and_true, true_and, reduceIte, reduceCtorEq, eq_self, implies_true, forall_const, false_implies, imp_self, decide_true, decide_false, x38]
  generalize hG0 : H.push [.int .i64 a, .int .i64 b, v] = H0
  have k0 : Keep H H0 := by rw [← hG0]; exact Keep.push _ _
  have g0 : H0.get H.nxt = some (.own [.int .i64 a, .int .i64 b, v]) := by rw [← hG0, push_get', if_pos rfl]
  have n0 : H0.nxt = H.nxt + 1 := by rw [← hG0, Zbg]
  have hs0 : Bts H0 v l := hs.keep k0
  have key : ∀ n : Int, cntN l = n → Keep H H0 ∧ ∀ m, m = cntS c b n → m = cntR c b l := fun n hn => ⟨k0, fun m hm => by rw [hm, cntR, hn]⟩
  by_cases hz : 0 < l.length
  · have hn : cntN l = IntKind.i64.wrap (l.getD 0 0) := by rw [cntN, if_pos hz]
    obtain ⟨kk, key⟩ := key _ hn
    have i0 := IntsK.idx (H1 := H0) (k' := .i64) hs0 hz
    have l0 := IntsK.ld hs0 hz
    simp only [Int.natCast_zero] at i0
    by_cases h3 : b = 3
    · simp (maxSteps := 4000000) (disch := omega) only [Zq, evO, vbox, wr, Zeq, if_true, if_false, Nat.reduceEqDiff, Nat.reduceAdd, Nat.reduceLeDiff, Nat.reduceSub, and_self, and_true, true_and, reduceIte, reduceCtorEq, eq_self, implies_true, forall_const, false_implies, imp_self, decide_true, decide_false, fix_nil, fix_cons, g0, hs0.len_, i0, l0]
      exact ⟨k0, by rw [← key 0 (by simp [cntS, h3])]⟩
    · by_cases h1 : b = 1
      · by_cases hc : 0 ≤ c
        · simp (maxSteps := 4000000) (disch := omega) only [Zq, evO, vbox, wr, Zeq, if_true, if_false, Nat.reduceEqDiff, Nat.reduceAdd, Nat.reduceLeDiff, Nat.reduceSub, and_self, and_true, true_and, reduceIte, reduceCtorEq, eq_self, implies_true, forall_const, false_implies, imp_self, decide_true, decide_false, fix_nil, fix_cons, g0, hs0.len_, i0, l0]
          exact ⟨k0, by rw [← key _ rfl, cntS, if_neg h3, if_pos ⟨h1, hc⟩]⟩
        · simp (maxSteps := 4000000) (disch := omega) only [Zq, evO, vbox, wr, Zeq, if_true, if_false, Nat.reduceEqDiff, Nat.reduceAdd, Nat.reduceLeDiff, Nat.reduceSub, and_self, and_true, true_and, reduceIte, reduceCtorEq, eq_self, implies_true, forall_const, false_implies, imp_self, decide_true, decide_false, fix_nil, fix_cons, g0, hs0.len_, i0, l0]
          exact ⟨k0, by rw [← key _ rfl, cntS, if_neg h3, if_neg (fun h => hc h.2), if_neg (fun h => hc h.2)]⟩
      · by_cases h2 : b = 2
        · by_cases hc : 0 ≤ c
          · simp (maxSteps := 4000000) (disch := omega) only [Zq, evO, vbox, wr, Zeq, if_true, if_false, Nat.reduceEqDiff, Nat.reduceAdd, Nat.reduceLeDiff, Nat.reduceSub, and_self, and_true, true_and, reduceIte, reduceCtorEq, eq_self, implies_true, forall_const, false_implies, imp_self, decide_true, decide_false, fix_nil, fix_cons, g0, hs0.len_, i0, l0, vmm_max]
            exact ⟨k0, by rw [← key _ rfl, cntS_2 h2 hc]⟩
          · simp (maxSteps := 4000000) (disch := omega) only [Zq, evO, vbox, wr, Zeq, if_true, if_false, Nat.reduceEqDiff, Nat.reduceAdd, Nat.reduceLeDiff, Nat.reduceSub, and_self, and_true, true_and, reduceIte, reduceCtorEq, eq_self, implies_true, forall_const, false_implies, imp_self, decide_true, decide_false, fix_nil, fix_cons, g0, hs0.len_, i0, l0]
            exact ⟨k0, by rw [← key _ rfl, cntS, if_neg h3, if_neg (fun h => hc h.2), if_neg (fun h => hc h.2)]⟩
        · simp (maxSteps := 4000000) (disch := omega) only [Zq, evO, vbox, wr, Zeq, if_true, if_false, Nat.reduceEqDiff, Nat.reduceAdd, Nat.reduceLeDiff, Nat.reduceSub, and_self, and_true, true_and, reduceIte, reduceCtorEq, eq_self, implies_true, forall_const, false_implies, imp_self, decide_true, decide_false, fix_nil, fix_cons, g0, hs0.len_, i0, l0]
          exact ⟨k0, by rw [← key _ rfl, cntS, if_neg h3, if_neg (fun h => h1 h.1), if_neg (fun h => h2 h.1)]⟩
  · have hn : cntN l = 0 := by rw [cntN, if_neg hz]
    obtain ⟨kk, key⟩ := key _ hn
    by_cases h3 : b = 3
    · simp (maxSteps := 4000000) (disch := omega) only [Zq, evO, vbox, wr, Zeq, if_true, if_false, Nat.reduceEqDiff, Nat.reduceAdd, Nat.reduceLeDiff, Nat.reduceSub, and_self, and_true, true_and, reduceIte, reduceCtorEq, eq_self, implies_true, forall_const, false_implies, imp_self, decide_true, decide_false, fix_nil, fix_cons, g0, hs0.len_]
      exact ⟨k0, by rw [← key 0 (by simp [cntS, h3])]⟩
    · by_cases h1 : b = 1
      · by_cases hc : 0 ≤ c
        · simp (maxSteps := 4000000) (disch := omega) only [Zq, evO, vbox, wr, Zeq, if_true, if_false, Nat.reduceEqDiff, Nat.reduceAdd, Nat.reduceLeDiff, Nat.reduceSub, and_self, and_true, true_and, reduceIte, reduceCtorEq, eq_self, implies_true, forall_const, false_implies, imp_self, decide_true, decide_false, fix_nil, fix_cons, g0, hs0.len_]
          exact ⟨k0, by rw [← key _ rfl, cntS, if_neg h3, if_pos ⟨h1, hc⟩]⟩
        · simp (maxSteps := 4000000) (disch := omega) only [Zq, evO, vbox, wr, Zeq, if_true, if_false, Nat.reduceEqDiff, Nat.reduceAdd, Nat.reduceLeDiff, Nat.reduceSub, and_self, and_true, true_and, reduceIte, reduceCtorEq, eq_self, implies_true, forall_const, false_implies, imp_self, decide_true, decide_false, fix_nil, fix_cons, g0, hs0.len_]
          exact ⟨k0, by rw [← key _ rfl, cntS, if_neg h3, if_neg (fun h => hc h.2), if_neg (fun h => hc h.2)]⟩
      · by_cases h2 : b = 2
        · by_cases hc : 0 ≤ c
          · simp (maxSteps := 4000000) (disch := omega) only [Zq, evO, vbox, wr, Zeq, if_true, if_false, Nat.reduceEqDiff, Nat.reduceAdd, Nat.reduceLeDiff, Nat.reduceSub, and_self, and_true, true_and, reduceIte, reduceCtorEq, eq_self, implies_true, forall_const, false_implies, imp_self, decide_true, decide_false, fix_nil, fix_cons, g0, hs0.len_, vmm_max]
            exact ⟨k0, by rw [← key _ rfl, cntS_2 h2 hc]⟩
          · simp (maxSteps := 4000000) (disch := omega) only [Zq, evO, vbox, wr, Zeq, if_true, if_false, Nat.reduceEqDiff, Nat.reduceAdd, Nat.reduceLeDiff, Nat.reduceSub, and_self, and_true, true_and, reduceIte, reduceCtorEq, eq_self, implies_true, forall_const, false_implies, imp_self, decide_true, decide_false, fix_nil, fix_cons, g0, hs0.len_]
            exact ⟨k0, by rw [← key _ rfl, cntS, if_neg h3, if_neg (fun h => hc h.2), if_neg (fun h => hc h.2)]⟩
        · simp (maxSteps := 4000000) (disch := omega) only [Zq, evO, vbox, wr, Zeq, if_true, if_false, Nat.reduceEqDiff, Nat.reduceAdd, Nat.reduceLeDiff, Nat.reduceSub, and_self, and_true, true_and, reduceIte, reduceCtorEq, eq_self, implies_true, forall_const, false_implies, imp_self, decide_true, decide_false, fix_nil, fix_cons, g0, hs0.len_]
          exact ⟨k0, by rw [← key _ rfl, cntS, if_neg h3, if_neg (fun h => h1 h.1), if_neg (fun h => h2 h.1)]⟩
/-- An element of a slice of telegrams. -/
theorem r_impl_Axles {H : Heap} {v : Value} {ts : List Tel} (h : (rSlc rTelegram).rd H [v] ts) (hl : ts.length ≤ 4611686018427387904) : Run Tryd.prog 24 [v] H fun r H' => Keep H H' ∧ r = .tuple #[.int .i64 (axR ts).1, .int .i64 (axR ts).2] := by
  by_cases h2 : ts.length ≤ 200
  rotate_left
  · refine Run.intro c24 rfl ?_
    simp (maxSteps := 4000000) (disch := omega) only [Zq, evO, vbox, wr, Zeq, if_true, if_false, Nat.reduceEqDiff, Nat.reduceAdd, Nat.reduceLeDiff, Nat.reduceSub, and_self, and_true, true_and, reduceIte, reduceCtorEq, eq_self, implies_true, forall_const, false_implies, imp_self, decide_true, decide_false, x24, slc_len h]
    exact ⟨Keep.refl _, by rw [axR, if_neg (fun h => h2 h.1)]⟩
  refine Run.intro c24 rfl ?_
  simp (maxSteps := 4000000) (disch := omega) only [Zq, evO, vbox, wr, Zeq, if_true, if_false, Nat.reduceEqDiff, Nat.reduceAdd, Nat.reduceLeDiff, Nat.reduceSub, and_self, and_true, true_and, reduceIte, reduceCtorEq, eq_self, implies_true, forall_const, false_implies, imp_self, decide_true, decide_false, x24, slc_len h]
  refine G_forF [0, 14, 15] (ts.length) (fun i T H1 => T 16 = .int .i64 (i : Int) ∧ Keep H H1 ∧ (ts.take i).all okT = true) 0 (Nat.zero_le _) ?_ ?_
  · simp (maxSteps := 4000000) (disch := omega) only [Zq, evO, vbox, wr, Zeq, if_true, if_false, Nat.reduceEqDiff, Nat.reduceAdd, Nat.reduceLeDiff, Nat.reduceSub, and_self, and_true, true_and, reduceIte, reduceCtorEq, eq_self, implies_true, forall_const, false_implies, imp_self, decide_true, decide_false]
    exact ⟨Keep.refl _, rfl⟩
  rintro i T H1 hi hT ⟨t16, k1, ha⟩
  simp only [fix_nil, fix_cons, Zq, evO, vbox, wr, Zeq, if_true, if_false, Nat.reduceEqDiff, Nat.reduceAdd, Nat.reduceLeDiff, Nat.reduceSub, and_self, and_true, true_and, reduceIte, reduceCtorEq, eq_self, implies_true, forall_const, false_implies, imp_self, decide_true, decide_false] at hT
  obtain ⟨t0, t14, t15⟩ := hT
  have h1 := (rSlc rTelegram).rdk h k1
  by_cases hin : i < ts.length
  · obtain ⟨w, e3, e0, e1, e2, hw⟩ := tel_el h1 hin
    simp (maxSteps := 4000000) (disch := omega) only [Zq, evO, vbox, wr, Zeq, if_true, if_false, Nat.reduceEqDiff, Nat.reduceAdd, Nat.reduceLeDiff, Nat.reduceSub, and_self, and_true, true_and, reduceIte, reduceCtorEq, eq_self, implies_true, forall_const, false_implies, imp_self, decide_true, decide_false, fix_nil, fix_cons, t0, t14, t15, t16, slc_idx (sz := 3) rfl h1 hin, e3]
    generalize hG2 : (H1.push [.int .i64 0, .int .i64 0, .slice none 0 0]).set H1.nxt [.int .i64 ts[i].1, .int .i64 ts[i].2.1, w] = H2
    have k2 : Keep H1 H2 := by rw [← hG2]; repeat' (first | exact Keep.refl _ | assumption | refine Keep.push' ?_ | refine Keep.set' ?_ ?_ | refine Keep.moved' ?_ ?_ | omega)
    have g2 : H2.get H1.nxt = some (.own [.int .i64 ts[i].1, .int .i64 ts[i].2.1, w]) := by rw [← hG2, Zbi, if_pos rfl]
    have n2 : H2.nxt = H1.nxt + 1 := by rw [← hG2, Zbh, Zbg]
    refine GO_call ((r_impl_TelegramOk ((rSlc rByte).rdk hw k2)).mono ?_)
    rintro _ H3 ⟨k3, rfl⟩
    have n3 := k3.nxt
    by_cases hok : okTel ts[i].1 ts[i].2.1 ts[i].2.2.length = true
    · simp (maxSteps := 4000000) (disch := omega) only [Zq, evO, vbox, wr, Zeq, if_true, if_false, Nat.reduceEqDiff, Nat.reduceAdd, Nat.reduceLeDiff, Nat.reduceSub, and_self, and_true, true_and, reduceIte, reduceCtorEq, eq_self, implies_true, forall_const, false_implies, imp_self, decide_true, decide_false, fix_nil, fix_cons, t0, t14, t15, t16, g2, hok]
      exact ⟨hin, k1.trans (k2.trans k3), all_succ hin ha hok⟩
    · have hok' : okTel ts[i].1 ts[i].2.1 ts[i].2.2.length = false := by simpa using hok
      simp (maxSteps := 4000000) (disch := omega) only [Zq, evO, vbox, wr, Zeq, if_true, if_false, Nat.reduceEqDiff, Nat.reduceAdd, Nat.reduceLeDiff, Nat.reduceSub, and_self, and_true, true_and, reduceIte, reduceCtorEq, eq_self, implies_true, forall_const, false_implies, imp_self, decide_true, decide_false, fix_nil, fix_cons, t0, t14, t15, t16, g2, hok']
      exact ⟨k1.trans (k2.trans k3), by rw [axR_bad (all_bad hin hok')]⟩
  obtain rfl : i = ts.length := by omega
  rw [List.take_length] at ha
  simp (maxSteps := 4000000) (disch := omega) only [Zq, evO, vbox, wr, Zeq, if_true, if_false, Nat.reduceEqDiff, Nat.reduceAdd, Nat.reduceLeDiff, Nat.reduceSub, and_self, and_true, true_and, reduceIte, reduceCtorEq, eq_self, implies_true, forall_const, false_implies, imp_self, decide_true, decide_false, fix_nil, fix_cons, t0, t14, t15, t16, slc_len h]
  refine G_forF [24, 25] (ts.length) (fun i T H1 => T 26 = .int .i64 (i : Int) ∧ T 6 = .int .i64 (axGo (ts.take i)).1 ∧ T 7 = .int .i64 (axGo (ts.take i)).2.1 ∧ T 8 = .int .i64 ((axGo (ts.take i)).2.2 : Int) ∧ Keep H H1) 0 (Nat.zero_le _) ?_ ?_
  · simp (maxSteps := 4000000) (disch := omega) only [Zq, evO, vbox, wr, Zeq, if_true, if_false, Nat.reduceEqDiff, Nat.reduceAdd, Nat.reduceLeDiff, Nat.reduceSub, and_self, and_true, true_and, reduceIte, reduceCtorEq, eq_self, implies_true, forall_const, false_implies, imp_self, decide_true, decide_false, fix_nil, fix_cons, t0, t14, t15, t16]
    exact ⟨rfl, rfl, rfl, k1⟩
  rintro i T H1 hi hT ⟨t26, t6, t7, t8, k1⟩
  simp only [fix_nil, fix_cons, Zq, evO, vbox, wr, Zeq, if_true, if_false, Nat.reduceEqDiff, Nat.reduceAdd, Nat.reduceLeDiff, Nat.reduceSub, and_self, and_true, true_and, reduceIte, reduceCtorEq, eq_self, implies_true, forall_const, false_implies, imp_self, decide_true, decide_false, t0, t14, t15, t16] at hT
  obtain ⟨t24, t25⟩ := hT
  have h1 := (rSlc rTelegram).rdk h k1
  have hle := axGo_le ts i hi
  by_cases hin : i < ts.length
  · obtain ⟨w, e3, e0, e1, e2, hw⟩ := tel_el h1 hin
    have hs := axGo_succ hin
    rw [axStep] at hs
    simp (maxSteps := 4000000) (disch := omega) only [Zq, evO, vbox, wr, Zeq, if_true, if_false, Nat.reduceEqDiff, Nat.reduceAdd, Nat.reduceLeDiff, Nat.reduceSub, and_self, and_true, true_and, reduceIte, reduceCtorEq, eq_self, implies_true, forall_const, false_implies, imp_self, decide_true, decide_false, fix_nil, fix_cons, t0, t14, t15, t16, t24, t25, t26, t6, t7, t8, slc_idx (sz := 3) rfl h1 hin, e3]
    generalize hG2 : (H1.push [.int .i64 0, .int .i64 0, .slice none 0 0]).set H1.nxt [.int .i64 ts[i].1, .int .i64 ts[i].2.1, w] = H2
    have k2 : Keep H1 H2 := by rw [← hG2]; repeat' (first | exact Keep.refl _ | assumption | refine Keep.push' ?_ | refine Keep.set' ?_ ?_ | refine Keep.moved' ?_ ?_ | omega)
    have g2 : H2.get H1.nxt = some (.own [.int .i64 ts[i].1, .int .i64 ts[i].2.1, w]) := by rw [← hG2, Zbi, if_pos rfl]
    have n2 : H2.nxt = H1.nxt + 1 := by rw [← hG2, Zbh, Zbg]
    refine GO_call ((r_impl_Accept (axGo (ts.take i)).2.1 ts[i].1 _).mono ?_)
    rintro _ H3 ⟨k3, rfl⟩
    have n3 := k3.nxt
    have g3 := (k3.get (H1.nxt) (by omega)).trans g2
    by_cases a1 : accR (axGo (ts.take i)).2.1 ts[i].1 = 1
    · rw [if_pos a1] at hs
      simp (maxSteps := 4000000) (disch := omega) only [Zq, evO, vbox, wr, Zeq, if_true, if_false, Nat.reduceEqDiff, Nat.reduceAdd, Nat.reduceLeDiff, Nat.reduceSub, and_self, and_true, true_and, reduceIte, reduceCtorEq, eq_self, implies_true, forall_const, false_implies, imp_self, decide_true, decide_false, fix_nil, fix_cons, t0, t14, t15, t16, t24, t25, t26, t6, t7, t8, g2, g3, a1, Zfn]
      exact ⟨hin, by rw [hs], by rw [hs], by rw [hs], k1.trans (k2.trans k3)⟩
    · rw [if_neg a1] at hs
      by_cases a2 : accR (axGo (ts.take i)).2.1 ts[i].1 = 2
      · rw [if_pos a2] at hs
        simp (maxSteps := 4000000) (disch := omega) only [Zq, evO, vbox, wr, Zeq, if_true, if_false, Nat.reduceEqDiff, Nat.reduceAdd, Nat.reduceLeDiff, Nat.reduceSub, and_self, and_true, true_and, reduceIte, reduceCtorEq, eq_self, implies_true, forall_const, false_implies, imp_self, decide_true, decide_false, fix_nil, fix_cons, t0, t14, t15, t16, t24, t25, t26, t6, t7, t8, g2, g3, a2]
        refine GO_call ((r_impl_counted (c := -1) ((rSlc rByte).rdk hw (k2.trans k3))).mono ?_)
        rintro _ H4 ⟨k4, rfl⟩
        have n4 := k4.nxt
        have g4 := (k4.get (H1.nxt) (by omega)).trans g3
        simp (maxSteps := 4000000) (disch := omega) only [Zq, evO, vbox, wr, Zeq, if_true, if_false, Nat.reduceEqDiff, Nat.reduceAdd, Nat.reduceLeDiff, Nat.reduceSub, and_self, and_true, true_and, reduceIte, reduceCtorEq, eq_self, implies_true, forall_const, false_implies, imp_self, decide_true, decide_false, fix_nil, fix_cons, t0, t14, t15, t16, t24, t25, t26, t6, t7, t8, g2, g3, g4]
        exact ⟨hin, by rw [hs], by rw [hs], by rw [hs], k1.trans (k2.trans (k3.trans k4))⟩
      · rw [if_neg a2] at hs
        simp (maxSteps := 4000000) (disch := omega) only [Zq, evO, vbox, wr, Zeq, if_true, if_false, Nat.reduceEqDiff, Nat.reduceAdd, Nat.reduceLeDiff, Nat.reduceSub, and_self, and_true, true_and, reduceIte, reduceCtorEq, eq_self, implies_true, forall_const, false_implies, imp_self, decide_true, decide_false, fix_nil, fix_cons, t0, t14, t15, t16, t24, t25, t26, t6, t7, t8, g2, g3, a1, a2]
        refine GO_call ((r_impl_counted (c := (axGo (ts.take i)).1) ((rSlc rByte).rdk hw (k2.trans k3))).mono ?_)
        rintro _ H4 ⟨k4, rfl⟩
        have n4 := k4.nxt
        have g4 := (k4.get (H1.nxt) (by omega)).trans g3
        simp (maxSteps := 4000000) (disch := omega) only [Zq, evO, vbox, wr, Zeq, if_true, if_false, Nat.reduceEqDiff, Nat.reduceAdd, Nat.reduceLeDiff, Nat.reduceSub, and_self, and_true, true_and, reduceIte, reduceCtorEq, eq_self, implies_true, forall_const, false_implies, imp_self, decide_true, decide_false, fix_nil, fix_cons, t0, t14, t15, t16, t24, t25, t26, t6, t7, t8, g2, g3, g4]
        exact ⟨hin, by rw [hs], by rw [hs], by rw [hs], k1.trans (k2.trans (k3.trans k4))⟩
  obtain rfl : i = ts.length := by omega
  rw [List.take_length] at t6 t7 t8
  simp (maxSteps := 4000000) (disch := omega) only [Zq, evO, vbox, wr, Zeq, if_true, if_false, Nat.reduceEqDiff, Nat.reduceAdd, Nat.reduceLeDiff, Nat.reduceSub, and_self, and_true, true_and, reduceIte, reduceCtorEq, eq_self, implies_true, forall_const, false_implies, imp_self, decide_true, decide_false, fix_nil, fix_cons, t0, t14, t15, t16, t24, t25, t26, t6, t7, t8]
  exact ⟨k1, by rw [axR, if_pos ⟨h2, ha⟩]⟩
theorem cntS_2' {c b n : Int} (h2 : b = 2) (hc : 0 ≤ c) : cntS c b n = if IntKind.i64.wrap (c - n) < 0 then -1 else IntKind.i64.wrap (c - n) := by
  subst h2
  rw [cntS, if_neg (by omega), if_neg (by omega), if_pos ⟨rfl, hc⟩]
theorem r_spec_Axles {H : Heap} {v : Value} {ts : List Tel} (h : (rSlc rTelegram).rd H [v] ts) (hl : ts.length ≤ 4611686018427387904) : Run Tryd.prog 25 [v] H fun r H' => Keep H H' ∧ r = .tuple #[.int .i64 (axR ts).1, .int .i64 (axR ts).2] := by
  by_cases h2 : ts.length ≤ 200
  rotate_left
  · refine Run.intro c25 rfl ?_
    simp (maxSteps := 4000000) (disch := omega) only [Zq, evO, vbox, wr, Zeq, if_true, if_false, Nat.reduceEqDiff, Nat.reduceAdd, Nat.reduceLeDiff, Nat.reduceSub, and_self, and_true, true_and, reduceIte, reduceCtorEq, eq_self, implies_true, forall_const, false_implies, imp_self, decide_true, decide_false, x25, slc_len h]
    exact ⟨Keep.refl _, by rw [axR, if_neg (fun h => h2 h.1)]⟩
  refine Run.intro c25 rfl ?_
  simp (maxSteps := 4000000) (disch := omega) only [Zq, evO, vbox, wr, Zeq, if_true, if_false, Nat.reduceEqDiff, Nat.reduceAdd, Nat.reduceLeDiff, Nat.reduceSub, and_self, and_true, true_and, reduceIte, reduceCtorEq, eq_self, implies_true, forall_const, false_implies, imp_self, decide_true, decide_false, x25, slc_len h]
  refine G_forF [0] (ts.length) (fun i T H1 => T 4 = .int .i64 (i : Int) ∧ Keep H H1 ∧ (ts.take i).all okT = true) 0 (Nat.zero_le _) ?_ ?_
  · simp (maxSteps := 4000000) (disch := omega) only [Zq, evO, vbox, wr, Zeq, if_true, if_false, Nat.reduceEqDiff, Nat.reduceAdd, Nat.reduceLeDiff, Nat.reduceSub, and_self, and_true, true_and, reduceIte, reduceCtorEq, eq_self, implies_true, forall_const, false_implies, imp_self, decide_true, decide_false]
    exact ⟨Keep.refl _, rfl⟩
  rintro i T H1 hi hT ⟨t4, k1, ha⟩
  simp only [fix_nil, fix_cons, Zq, evO, vbox, wr, Zeq, if_true, if_false, Nat.reduceEqDiff, Nat.reduceAdd, Nat.reduceLeDiff, Nat.reduceSub, and_self, and_true, true_and, reduceIte, reduceCtorEq, eq_self, implies_true, forall_const, false_implies, imp_self, decide_true, decide_false] at hT
  have t0 := hT
  have h1 := (rSlc rTelegram).rdk h k1
  by_cases hin : i < ts.length
  · obtain ⟨w, e3, e0, e1, e2, hw⟩ := tel_el h1 hin
    simp (maxSteps := 4000000) (disch := omega) only [Zq, evO, vbox, wr, Zeq, if_true, if_false, Nat.reduceEqDiff, Nat.reduceAdd, Nat.reduceLeDiff, Nat.reduceSub, and_self, and_true, true_and, reduceIte, reduceCtorEq, eq_self, implies_true, forall_const, false_implies, imp_self, decide_true, decide_false, fix_nil, fix_cons, t0, t4, slc_len h1, slc_idx (sz := 3) rfl h1 hin, e3]
    refine GO_call ((r_spec_TelegramOk hw).mono ?_)
    rintro _ H3 ⟨k3, rfl⟩
    have n3 := k3.nxt
    by_cases hok : okTel ts[i].1 ts[i].2.1 ts[i].2.2.length = true
    · simp (maxSteps := 4000000) (disch := omega) only [Zq, evO, vbox, wr, Zeq, if_true, if_false, Nat.reduceEqDiff, Nat.reduceAdd, Nat.reduceLeDiff, Nat.reduceSub, and_self, and_true, true_and, reduceIte, reduceCtorEq, eq_self, implies_true, forall_const, false_implies, imp_self, decide_true, decide_false, fix_nil, fix_cons, t0, t4, hok]
      exact ⟨hin, k1.trans k3, all_succ hin ha hok⟩
    · have hok' : okTel ts[i].1 ts[i].2.1 ts[i].2.2.length = false := by simpa using hok
      simp (maxSteps := 4000000) (disch := omega) only [Zq, evO, vbox, wr, Zeq, if_true, if_false, Nat.reduceEqDiff, Nat.reduceAdd, Nat.reduceLeDiff, Nat.reduceSub, and_self, and_true, true_and, reduceIte, reduceCtorEq, eq_self, implies_true, forall_const, false_implies, imp_self, decide_true, decide_false, fix_nil, fix_cons, t0, t4, hok']
      exact ⟨k1.trans k3, by rw [axR_bad (all_bad hin hok')]⟩
  obtain rfl : i = ts.length := by omega
  rw [List.take_length] at ha
  simp (maxSteps := 4000000) (disch := omega) only [Zq, evO, vbox, wr, Zeq, if_true, if_false, Nat.reduceEqDiff, Nat.reduceAdd, Nat.reduceLeDiff, Nat.reduceSub, and_self, and_true, true_and, reduceIte, reduceCtorEq, eq_self, implies_true, forall_const, false_implies, imp_self, decide_true, decide_false, fix_nil, fix_cons, t0, t4, slc_len h1]
  refine G_forF [0] (ts.length) (fun i T H1 => T 8 = .int .i64 (i : Int) ∧ T 5 = .int .i64 (axGo (ts.take i)).1 ∧ T 6 = .int .i64 (axGo (ts.take i)).2.1 ∧ T 7 = .int .i64 ((axGo (ts.take i)).2.2 : Int) ∧ Keep H H1) 0 (Nat.zero_le _) ?_ ?_
  · simp (maxSteps := 4000000) (disch := omega) only [Zq, evO, vbox, wr, Zeq, if_true, if_false, Nat.reduceEqDiff, Nat.reduceAdd, Nat.reduceLeDiff, Nat.reduceSub, and_self, and_true, true_and, reduceIte, reduceCtorEq, eq_self, implies_true, forall_const, false_implies, imp_self, decide_true, decide_false, fix_nil, fix_cons, t0, t4]
    exact ⟨rfl, rfl, rfl, k1⟩
  rintro i T H1 hi hT ⟨t8, t5, t6, t7, k1⟩
  simp only [fix_nil, fix_cons, Zq, evO, vbox, wr, Zeq, if_true, if_false, Nat.reduceEqDiff, Nat.reduceAdd, Nat.reduceLeDiff, Nat.reduceSub, and_self, and_true, true_and, reduceIte, reduceCtorEq, eq_self, implies_true, forall_const, false_implies, imp_self, decide_true, decide_false, t0, t4] at hT
  have t0 := hT
  have h1 := (rSlc rTelegram).rdk h k1
  have hle := axGo_le ts i hi
  by_cases hin : i < ts.length
  · obtain ⟨w, e3, e0, e1, e2, hw⟩ := tel_el h1 hin
    have hs := axGo_succ hin
    rw [axStep] at hs
    simp (maxSteps := 4000000) (disch := omega) only [Zq, evO, vbox, wr, Zeq, if_true, if_false, Nat.reduceEqDiff, Nat.reduceAdd, Nat.reduceLeDiff, Nat.reduceSub, and_self, and_true, true_and, reduceIte, reduceCtorEq, eq_self, implies_true, forall_const, false_implies, imp_self, decide_true, decide_false, fix_nil, fix_cons, t0, t4, t8, t5, t6, t7, slc_len h1, slc_idx (sz := 3) rfl h1 hin, e3]
    generalize hG2 : (H1.push [.int .i64 0, .int .i64 0, .slice none 0 0]).set H1.nxt [.int .i64 ts[i].1, .int .i64 ts[i].2.1, w] = H2
    have k2 : Keep H1 H2 := by rw [← hG2]; repeat' (first | exact Keep.refl _ | assumption | refine Keep.push' ?_ | refine Keep.set' ?_ ?_ | refine Keep.moved' ?_ ?_ | omega)
    have g2 : H2.get H1.nxt = some (.own [.int .i64 ts[i].1, .int .i64 ts[i].2.1, w]) := by rw [← hG2, Zbi, if_pos rfl]
    have n2 : H2.nxt = H1.nxt + 1 := by rw [← hG2, Zbh, Zbg]
    refine GO_call ((r_spec_Accept (axGo (ts.take i)).2.1 ts[i].1 _).mono ?_)
    rintro _ H3 ⟨k3, rfl⟩
    have n3 := k3.nxt
    have g3 := (k3.get (H1.nxt) (by omega)).trans g2
    have k03 := k1.trans (k2.trans k3)
    by_cases a1 : accR (axGo (ts.take i)).2.1 ts[i].1 = 1
    · rw [if_pos a1] at hs
      simp (maxSteps := 4000000) (disch := omega) only [Zq, evO, vbox, wr, Zeq, if_true, if_false, Nat.reduceEqDiff, Nat.reduceAdd, Nat.reduceLeDiff, Nat.reduceSub, and_self, and_true, true_and, reduceIte, reduceCtorEq, eq_self, implies_true, forall_const, false_implies, imp_self, decide_true, decide_false, fix_nil, fix_cons, t0, t4, t8, t5, t6, t7, g2, g3, a1, Zfn]
      exact ⟨hin, by rw [hs], by rw [hs], by rw [hs], k03⟩
    rw [if_neg a1] at hs
    have hw3 : Bts H3 w ts[i].2.2 := bts_of ((rSlc rByte).rdk hw (k2.trans k3))
    obtain ⟨c, hc⟩ : ∃ c, c = if accR (axGo (ts.take i)).2.1 ts[i].1 = 2 then -1 else (axGo (ts.take i)).1 := ⟨_, rfl⟩
    rw [← hc] at hs
    have c0 := t0
    have c7 := t7
    have c8 := t8
    simp (maxSteps := 4000000) (disch := omega) only [Zq, evO, vbox, wr, Zeq, if_true, if_false, Nat.reduceEqDiff, Nat.reduceAdd, Nat.reduceLeDiff, Nat.reduceSub, and_self, and_true, true_and, reduceIte, reduceCtorEq, eq_self, implies_true, forall_const, false_implies, imp_self, decide_true, decide_false, fix_nil, fix_cons, t0, t4, t8, t5, t6, t7, g2, g3, a1]
    first | refine cK_cut (fun T' H' => T' 0 = v ∧ T' 5 = .int .i64 c ∧ T' 7 = T 7 ∧ T' 8 = T 8 ∧ T' 9 = ptr H1.nxt 0 ∧ H' = H3) ?_ ?_ | refine G_cut (fun T' H' => T' 0 = v ∧ T' 5 = .int .i64 c ∧ T' 7 = T 7 ∧ T' 8 = T 8 ∧ T' 9 = ptr H1.nxt 0 ∧ H' = H3) ?_ ?_ | refine GO_cut (fun T' H' => T' 0 = v ∧ T' 5 = .int .i64 c ∧ T' 7 = T 7 ∧ T' 8 = T 8 ∧ T' 9 = ptr H1.nxt 0 ∧ H' = H3) ?_ ?_
    · by_cases a2 : accR (axGo (ts.take i)).2.1 ts[i].1 = 2
      · rw [if_pos a2] at hc
        simp (maxSteps := 4000000) (disch := omega) only [Zq, evO, vbox, wr, Zeq, if_true, if_false, Nat.reduceEqDiff, Nat.reduceAdd, Nat.reduceLeDiff, Nat.reduceSub, and_self, and_true, true_and, reduceIte, reduceCtorEq, eq_self, implies_true, forall_const, false_implies, imp_self, decide_true, decide_false, fix_nil, fix_cons, t0, t4, t8, t5, t6, t7, g2, g3, a2, hc]
      · rw [if_neg a2] at hc
        simp (maxSteps := 4000000) (disch := omega) only [Zq, evO, vbox, wr, Zeq, if_true, if_false, Nat.reduceEqDiff, Nat.reduceAdd, Nat.reduceLeDiff, Nat.reduceSub, and_self, and_true, true_and, reduceIte, reduceCtorEq, eq_self, implies_true, forall_const, false_implies, imp_self, decide_true, decide_false, fix_nil, fix_cons, t0, t4, t8, t5, t6, t7, g2, g3, a2, hc]
    rintro T2 H' ⟨t0, t5, t7, t8, t9, rfl⟩
    rw [c7] at t7
    rw [c8] at t8
    simp (maxSteps := 4000000) (disch := omega) only [Zq, evO, vbox, wr, Zeq, if_true, if_false, Nat.reduceEqDiff, Nat.reduceAdd, Nat.reduceLeDiff, Nat.reduceSub, and_self, and_true, true_and, reduceIte, reduceCtorEq, eq_self, implies_true, forall_const, false_implies, imp_self, decide_true, decide_false, fix_nil, fix_cons, t0, t4, t8, t5, t6, t7, g2, g3, t9, hw3.len_]
    first | refine cK_cut (fun T' G' => T' 0 = v ∧ T' 5 = .int .i64 c ∧ T' 6 = .int .i64 ts[i].1 ∧ T' 7 = T 7 ∧ T' 8 = T 8 ∧ T' 9 = ptr H1.nxt 0 ∧ T' 11 = .int .i64 (cntN ts[i].2.2) ∧ G' = H') ?_ ?_ | refine G_cut (fun T' G' => T' 0 = v ∧ T' 5 = .int .i64 c ∧ T' 6 = .int .i64 ts[i].1 ∧ T' 7 = T 7 ∧ T' 8 = T 8 ∧ T' 9 = ptr H1.nxt 0 ∧ T' 11 = .int .i64 (cntN ts[i].2.2) ∧ G' = H') ?_ ?_ | refine GO_cut (fun T' G' => T' 0 = v ∧ T' 5 = .int .i64 c ∧ T' 6 = .int .i64 ts[i].1 ∧ T' 7 = T 7 ∧ T' 8 = T 8 ∧ T' 9 = ptr H1.nxt 0 ∧ T' 11 = .int .i64 (cntN ts[i].2.2) ∧ G' = H') ?_ ?_
    · by_cases hz : 0 < ts[i].2.2.length
      · have i0 := IntsK.idx (H1 := H') (k' := .i64) hw3 hz
        have l0 := IntsK.ld hw3 hz
        simp only [Int.natCast_zero] at i0
        have hn : cntN ts[i].2.2 = IntKind.i64.wrap (ts[i].2.2.getD 0 0) := by rw [cntN, if_pos hz]
        simp (maxSteps := 4000000) (disch := omega) only [Zq, evO, vbox, wr, Zeq, if_true, if_false, Nat.reduceEqDiff, Nat.reduceAdd, Nat.reduceLeDiff, Nat.reduceSub, and_self, and_true, true_and, reduceIte, reduceCtorEq, eq_self, implies_true, forall_const, false_implies, imp_self, decide_true, decide_false, fix_nil, fix_cons, t0, t4, t8, t5, t6, t7, g2, g3, t9, hz, hn, i0, l0, c7, c8]
      · have hn : cntN ts[i].2.2 = 0 := by rw [cntN, if_neg hz]
        simp (maxSteps := 4000000) (disch := omega) only [Zq, evO, vbox, wr, Zeq, if_true, if_false, Nat.reduceEqDiff, Nat.reduceAdd, Nat.reduceLeDiff, Nat.reduceSub, and_self, and_true, true_and, reduceIte, reduceCtorEq, eq_self, implies_true, forall_const, false_implies, imp_self, decide_true, decide_false, fix_nil, fix_cons, t0, t4, t8, t5, t6, t7, g2, g3, t9, hz, hn, c7, c8]
    rintro T3 H4 ⟨t0, t5, t6, t7, t8, t9, t11, rfl⟩
    rw [c7] at t7
    rw [c8] at t8
    have hr : cntR c ts[i].2.1 ts[i].2.2 = cntS c ts[i].2.1 (cntN ts[i].2.2) := rfl
    generalize cntN ts[i].2.2 = n at *
    by_cases h3 : ts[i].2.1 = 3
    · have hv : cntS c ts[i].2.1 n = 0 := by rw [cntS, if_pos h3]
      simp (maxSteps := 4000000) (disch := omega) only [Zq, evO, vbox, wr, Zeq, if_true, if_false, Nat.reduceEqDiff, Nat.reduceAdd, Nat.reduceLeDiff, Nat.reduceSub, and_self, and_true, true_and, reduceIte, reduceCtorEq, eq_self, implies_true, forall_const, false_implies, imp_self, decide_true, decide_false, fix_nil, fix_cons, t0, t4, t8, t5, t6, t7, g2, g3, t9, t11, h3]
      exact ⟨hin, by rw [hs, hr, hv], by rw [hs], by rw [hs], k03⟩
    by_cases h1 : ts[i].2.1 = 1
    · by_cases hc0 : 0 ≤ c
      · have hv : cntS c ts[i].2.1 n = IntKind.i64.wrap (c + n) := by rw [cntS, if_neg h3, if_pos ⟨h1, hc0⟩]
        simp (maxSteps := 4000000) (disch := omega) only [Zq, evO, vbox, wr, Zeq, if_true, if_false, Nat.reduceEqDiff, Nat.reduceAdd, Nat.reduceLeDiff, Nat.reduceSub, and_self, and_true, true_and, reduceIte, reduceCtorEq, eq_self, implies_true, forall_const, false_implies, imp_self, decide_true, decide_false, fix_nil, fix_cons, t0, t4, t8, t5, t6, t7, g2, g3, t9, t11, h3, h1]
        exact ⟨hin, by rw [hs, hr, hv], by rw [hs], by rw [hs], k03⟩
      · have hv : cntS c ts[i].2.1 n = c := by rw [cntS, if_neg h3, if_neg (fun h => hc0 h.2), if_neg (fun h => hc0 h.2)]
        simp (maxSteps := 4000000) (disch := omega) only [Zq, evO, vbox, wr, Zeq, if_true, if_false, Nat.reduceEqDiff, Nat.reduceAdd, Nat.reduceLeDiff, Nat.reduceSub, and_self, and_true, true_and, reduceIte, reduceCtorEq, eq_self, implies_true, forall_const, false_implies, imp_self, decide_true, decide_false, fix_nil, fix_cons, t0, t4, t8, t5, t6, t7, g2, g3, t9, t11, h3, h1]
        exact ⟨hin, by rw [hs, hr, hv], by rw [hs], by rw [hs], k03⟩
    by_cases h2 : ts[i].2.1 = 2
    · by_cases hc0 : 0 ≤ c
      · have hv := cntS_2' (n := n) h2 hc0
        by_cases hlt : IntKind.i64.wrap (c - n) < 0
        · rw [if_pos hlt] at hv
          simp (maxSteps := 4000000) (disch := omega) only [Zq, evO, vbox, wr, Zeq, if_true, if_false, Nat.reduceEqDiff, Nat.reduceAdd, Nat.reduceLeDiff, Nat.reduceSub, and_self, and_true, true_and, reduceIte, reduceCtorEq, eq_self, implies_true, forall_const, false_implies, imp_self, decide_true, decide_false, fix_nil, fix_cons, t0, t4, t8, t5, t6, t7, g2, g3, t9, t11, h3, h1, h2]
          exact ⟨hin, by rw [hs, hr, hv], by rw [hs], by rw [hs], k03⟩
        · rw [if_neg hlt] at hv
          simp (maxSteps := 4000000) (disch := omega) only [Zq, evO, vbox, wr, Zeq, if_true, if_false, Nat.reduceEqDiff, Nat.reduceAdd, Nat.reduceLeDiff, Nat.reduceSub, and_self, and_true, true_and, reduceIte, reduceCtorEq, eq_self, implies_true, forall_const, false_implies, imp_self, decide_true, decide_false, fix_nil, fix_cons, t0, t4, t8, t5, t6, t7, g2, g3, t9, t11, h3, h1, h2]
          exact ⟨hin, by rw [hs, hr, hv], by rw [hs], by rw [hs], k03⟩
      · have hv : cntS c ts[i].2.1 n = c := by rw [cntS, if_neg h3, if_neg (fun h => hc0 h.2), if_neg (fun h => hc0 h.2)]
        simp (maxSteps := 4000000) (disch := omega) only [Zq, evO, vbox, wr, Zeq, if_true, if_false, Nat.reduceEqDiff, Nat.reduceAdd, Nat.reduceLeDiff, Nat.reduceSub, and_self, and_true, true_and, reduceIte, reduceCtorEq, eq_self, implies_true, forall_const, false_implies, imp_self, decide_true, decide_false, fix_nil, fix_cons, t0, t4, t8, t5, t6, t7, g2, g3, t9, t11, h3, h1, h2]
        exact ⟨hin, by rw [hs, hr, hv], by rw [hs], by rw [hs], k03⟩
    · have hv : cntS c ts[i].2.1 n = c := by rw [cntS, if_neg h3, if_neg (fun h => h1 h.1), if_neg (fun h => h2 h.1)]
      simp (maxSteps := 4000000) (disch := omega) only [Zq, evO, vbox, wr, Zeq, if_true, if_false, Nat.reduceEqDiff, Nat.reduceAdd, Nat.reduceLeDiff, Nat.reduceSub, and_self, and_true, true_and, reduceIte, reduceCtorEq, eq_self, implies_true, forall_const, false_implies, imp_self, decide_true, decide_false, fix_nil, fix_cons, t0, t4, t8, t5, t6, t7, g2, g3, t9, t11, h3, h1, h2]
      exact ⟨hin, by rw [hs, hr, hv], by rw [hs], by rw [hs], k03⟩
  obtain rfl : i = ts.length := by omega
  rw [List.take_length] at t5 t6 t7
  simp (maxSteps := 4000000) (disch := omega) only [Zq, evO, vbox, wr, Zeq, if_true, if_false, Nat.reduceEqDiff, Nat.reduceAdd, Nat.reduceLeDiff, Nat.reduceSub, and_self, and_true, true_and, reduceIte, reduceCtorEq, eq_self, implies_true, forall_const, false_implies, imp_self, decide_true, decide_false, fix_nil, fix_cons, t0, t4, t8, t5, t6, t7, slc_len h1]
  exact ⟨k1, by rw [axR, if_pos ⟨h2, ha⟩]⟩
end Go.Proofs.YtiajbefljkikiaaDoor.AX
namespace Go.Proofs.YtiajbefljkikiaaDoor.AX
open Go
set_option maxRecDepth 10000
set_option maxHeartbeats 4000000
set_option linter.unusedSimpArgs false
set_option linter.unusedVariables false
theorem r_laws_at {H : Heap} {v : Value} {code : List Int} {i : Nat} (h : Bts' H v code) (hl : code.length ≤ 1048576) (hi : i ≤ 1048576) (hc : ∀ x ∈ code, 0 ≤ x ∧ x ≤ 255) : Run Tryd.prog 12 [v, .int .i64 (i : Int)] H fun r H' => Keep H H' ∧ r = .int .i64 (atR code i) := by
  refine Run.intro c12 rfl ?_
  by_cases hin : i < code.length
  · have hr := hc _ (getD_mem hin)
    have hw : IntKind.i64.wrap (code.getD i 0) = code.getD i 0 := wrap64 (by omega) (by omega)
    simp (maxSteps := 4000000) (disch := omega) only [Zq, evO, vbox, wr, Zeq, if_true, if_false, Nat.reduceEqDiff, Nat.reduceAdd, Nat.reduceLeDiff, Nat.reduceSub, and_self, and_true, true_and, reduceIte, reduceCtorEq, eq_self, implies_true, forall_const, false_implies, imp_self, decide_true, decide_false, x12, h.len_, h.idx hin, h.ld hin, hw]
    exact ⟨Keep.refl _, by rw [atR, if_pos hin]⟩
  · have h1 : IntKind.i64.wrap ((i : Int) * 11) = ((i * 11 : Nat) : Int) := by rw [wrap64 (by omega) (by omega)]; omega
    have h2 : IntKind.i64.wrap ((code.length : Int) * 3) = ((code.length * 3 : Nat) : Int) := by rw [wrap64 (by omega) (by omega)]; omega
    have h3 : IntKind.i64.wrap (((i * 11 : Nat) : Int) + ((code.length * 3 : Nat) : Int)) = ((i * 11 + code.length * 3 : Nat) : Int) := by rw [wrap64 (by omega) (by omega)]; omega
    have h4 : abin .rem (.int .i64 ((i * 11 + code.length * 3 : Nat) : Int)) (.int .i64 256) = some (.int .i64 (((i * 11 + code.length * 3 : Nat) : Int).tmod 256)) := abin_rem (by omega)
    simp (maxSteps := 4000000) (disch := omega) only [Zq, evO, vbox, wr, Zeq, if_true, if_false, Nat.reduceEqDiff, Nat.reduceAdd, Nat.reduceLeDiff, Nat.reduceSub, and_self, and_true, true_and, reduceIte, reduceCtorEq, eq_self, implies_true, forall_const, false_implies, imp_self, decide_true, decide_false, x12, h.len_, h1, h2, h3, h4]
    exact ⟨Keep.refl _, by rw [atR, if_neg hin]⟩
theorem r_laws_sameTelegram {H : Heap} {va vb : Value} {a b : Tel} (ha : Bts H va a.2.2) (hb : Bts H vb b.2.2) (hx : ∀ x ∈ a.2.2, isB x) (hy : ∀ x ∈ b.2.2, isB x) : Run Tryd.prog 11 [.agg #[.int .i64 a.1, .int .i64 a.2.1, va], .agg #[.int .i64 b.1, .int .i64 b.2.1, vb]] H fun r H' => Keep H H' ∧ r = .bool (decide (a = b)) := by
  have x1 := Sl.noTup_ ha
  have x2 := Sl.cells_ ha
  have y1 := Sl.noTup_ hb
  have y2 := Sl.cells_ hb
  obtain ⟨a1, a2, a3⟩ := a
  obtain ⟨b1, b2, b3⟩ := b
  refine Run.intro c11 rfl ?_
  simp (maxSteps := 4000000) (disch := omega) only [Zq, evO, vbox, wr, Zeq, if_true, if_false, Nat.reduceEqDiff, Nat.reduceAdd, Nat.reduceLeDiff, Nat.reduceSub, and_self, and_true, true_and, reduceIte, reduceCtorEq, eq_self, implies_true, forall_const, false_implies, imp_self, decide_true, decide_false, x11, x1, x2, y1, y2]
  generalize hG0 : H.push [.int .i64 a1, .int .i64 a2, va] = H0
  have k0 : Keep H H0 := by rw [← hG0]; exact Keep.push _ _
  have g0 : H0.get H.nxt = some (.own [.int .i64 a1, .int .i64 a2, va]) := by rw [← hG0, push_get', if_pos rfl]
  have n0 : H0.nxt = H.nxt + 1 := by rw [← hG0, Zbg]
  generalize hG1 : H0.push [.int .i64 b1, .int .i64 b2, vb] = H1
  have k1 : Keep H0 H1 := by rw [← hG1]; exact Keep.push _ _
  have g1 : H1.get H0.nxt = some (.own [.int .i64 b1, .int .i64 b2, vb]) := by rw [← hG1, push_get', if_pos rfl]
  have n1 : H1.nxt = H0.nxt + 1 := by rw [← hG1, Zbg]
  rw [n0] at g1
  have g1a := (k1.get H.nxt (by omega)).trans g0
  have k01 := k0.trans k1
  have sa := bts_str (IntsK.keep ha k01)
  have sb := bts_str (IntsK.keep hb k01)
  have hs := strB_eq hx hy
  simp only at sa sb hs
  by_cases e1 : a1 = b1
  rotate_left
  · simp (maxSteps := 4000000) (disch := omega) only [Zq, evO, vbox, wr, Zeq, if_true, if_false, Nat.reduceEqDiff, Nat.reduceAdd, Nat.reduceLeDiff, Nat.reduceSub, and_self, and_true, true_and, reduceIte, reduceCtorEq, eq_self, implies_true, forall_const, false_implies, imp_self, decide_true, decide_false, fix_nil, fix_cons, g0, g1, g1a, Zfm e1]
    exact ⟨k01, by rw [decide_eq_false]; intro e; injection e; contradiction⟩
  by_cases e2 : a2 = b2
  rotate_left
  · simp (maxSteps := 4000000) (disch := omega) only [Zq, evO, vbox, wr, Zeq, if_true, if_false, Nat.reduceEqDiff, Nat.reduceAdd, Nat.reduceLeDiff, Nat.reduceSub, and_self, and_true, true_and, reduceIte, reduceCtorEq, eq_self, implies_true, forall_const, false_implies, imp_self, decide_true, decide_false, fix_nil, fix_cons, g0, g1, g1a, Zfl e1, Zfm e2]
    exact ⟨k01, by rw [decide_eq_false]; intro e; injection e with _ e; injection e; contradiction⟩
  subst e1 e2
  by_cases e3 : a3 = b3
  · subst e3
    simp (maxSteps := 4000000) (disch := omega) only [Zq, evO, vbox, wr, Zeq, if_true, if_false, Nat.reduceEqDiff, Nat.reduceAdd, Nat.reduceLeDiff, Nat.reduceSub, and_self, and_true, true_and, reduceIte, reduceCtorEq, eq_self, implies_true, forall_const, false_implies, imp_self, decide_true, decide_false, fix_nil, fix_cons, g0, g1, g1a, Zfl (rfl : a1 = a1), Zfl (rfl : a2 = a2), GO_b2s, sa, sb, abin_seqB, hs]
    exact k01
  · simp (maxSteps := 4000000) (disch := omega) only [Zq, evO, vbox, wr, Zeq, if_true, if_false, Nat.reduceEqDiff, Nat.reduceAdd, Nat.reduceLeDiff, Nat.reduceSub, and_self, and_true, true_and, reduceIte, reduceCtorEq, eq_self, implies_true, forall_const, false_implies, imp_self, decide_true, decide_false, fix_nil, fix_cons, g0, g1, g1a, Zfl (rfl : a1 = a1), Zfl (rfl : a2 = a2), GO_b2s, sa, sb, abin_seqB, hs]
    exact ⟨k01, by simp⟩
/-- What a stream gives that ends with a flag. -/
def scQ (S : List Int) (ts : List Tel) (n : Int) : Prop := ∀ (B : List Int) (a : List Tel × Int), (spl (S ++ B)).foldl scS a = (spl B).foldl scS (a.1 ++ ts, a.2 + n)
theorem scQ_nil : scQ [] [] 0 := fun B a => by simp
theorem scQ_app {S S' : List Int} {ts ts' : List Tel} {n n' : Int} (h : scQ S ts n) (h' : scQ S' ts' n') : scQ (S ++ S') (ts ++ ts') (n + n') := fun B a => by
  rw [List.append_assoc, h, h', List.append_assoc, Int.add_assoc]
theorem scQ_enc {t : Tel} (h : okT t = true) (hb : ∀ x ∈ t.2.2, isB x) : scQ (encR t.1 t.2.1 t.2.2) [t] 0 := fun B a => by
  rw [enc_form h, List.append_assoc]
  show (spl ((126 : Int) :: bodL t ++ 126 :: B)).foldl scS a = _
  rw [spl_sent, List.foldl_cons, List.foldl_cons, scS_nil, scS_sent h hb, Int.add_zero]
theorem scQ_bad : scQ [1, 2, 3, 126] [] 1 := fun B a => by
  show (spl ([1, 2, 3] ++ 126 :: B)).foldl scS a = _
  rw [spl_cut (by simp), List.foldl_cons, scS_not (by simp) (by obtain ⟨b, hb, e⟩ := decI_eq ((126 : Int) :: [1, 2, 3] ++ [126]); rw [e, if_neg (fun hh => by simp at hh)]), List.append_nil]
theorem scQ_fin {S : List Int} {ts : List Tel} {n : Int} (h : scQ S ts n) (hl : S.length ≤ 3000) : scR S = (ts, n) := by
  rw [scR, if_pos hl, scL]
  have := h [] ([], 0)
  rw [List.append_nil] at this
  rw [this]
  simp [spl, scS_nil]
theorem enc_short {t : Tel} (h : t.2.2.length ≤ 1) : (encR t.1 t.2.1 t.2.2).length ≤ 12 := by
  unfold encR
  split
  · have h1 := encTo_le (loadL t.1 t.2.1 t.2.2)
    rw [loadL_len] at h1
    unfold encL
    rw [List.length_append, List.length_singleton]
    omega
  · simp
theorem r_laws_FnScan {H : Heap} {v0 : Value} {code : List Int} (h : Bts' H v0 code) (hc : ∀ x ∈ code, 0 ≤ x ∧ x ≤ 255) : Run Tryd.prog 5 [v0] H fun r _ => r = .bool true := by
  refine Run.intro c5 rfl ?_
  simp (maxSteps := 4000000) (disch := omega) only [Zq, evO, vbox, wr, Zeq, if_true, if_false, Nat.reduceEqDiff, Nat.reduceAdd, Nat.reduceLeDiff, Nat.reduceSub, and_self, and_true, true_and, reduceIte, reduceCtorEq, eq_self, implies_true, forall_const, false_implies, imp_self, decide_true, decide_false, x5]
  refine GO_call ((r_laws_big h).mono ?_)
  rintro _ H1 ⟨k1, rfl⟩
  by_cases hl : code.length ≤ 1048576
  rotate_left
  · simp (maxSteps := 4000000) (disch := omega) only [Zq, evO, vbox, wr, Zeq, if_true, if_false, Nat.reduceEqDiff, Nat.reduceAdd, Nat.reduceLeDiff, Nat.reduceSub, and_self, and_true, true_and, reduceIte, reduceCtorEq, eq_self, implies_true, forall_const, false_implies, imp_self, decide_true, decide_false, fix_nil, fix_cons]
  simp (maxSteps := 4000000) (disch := omega) only [Zq, evO, vbox, wr, Zeq, if_true, if_false, Nat.reduceEqDiff, Nat.reduceAdd, Nat.reduceLeDiff, Nat.reduceSub, and_self, and_true, true_and, reduceIte, reduceCtorEq, eq_self, implies_true, forall_const, false_implies, imp_self, decide_true, decide_false, fix_nil, fix_cons]
  refine GO_call ((r_spec_DrawRightTelegrams (IntsK.keep h k1) hl hc).mono ?_)
  rintro z H2 ⟨k2, ts, hz, hts, hlen⟩
  have lz : ∀ H : Heap, vlen H z = some (.int .i64 ts.length, H) := fun _ => slc_len hz
  have hB : ∀ t ∈ ts, ∀ x ∈ t.2.2, isB x := fun t ht => (hts t ht).2.2.2.2.2
  simp (maxSteps := 4000000) (disch := omega) only [Zq, evO, vbox, wr, Zeq, if_true, if_false, Nat.reduceEqDiff, Nat.reduceAdd, Nat.reduceLeDiff, Nat.reduceSub, and_self, and_true, true_and, reduceIte, reduceCtorEq, eq_self, implies_true, forall_const, false_implies, imp_self, decide_true, decide_false, fix_nil, fix_cons]
  have o3 : NewF (fZ .u8) 1 H2 (H2.push []) (.slice (some ⟨H2.nxt, 0, none⟩) 0 1) [] := NewF.new (Keep.refl _)
  generalize hG3 : H2.push [] = H3 at o3 ⊢
  have k3 : Keep H2 H3 := by rw [← hG3]; exact Keep.push _ _
  clear hG3
  refine G_forF [0, 3] (ts.length) (fun i T H4 => T 6 = .int .i64 (i : Int) ∧ Keep H2 H4 ∧ ∃ (S : List Int) (n : Nat) (u : Value), T 4 = u ∧ T 5 = .int .i64 (n : Int) ∧ NewF (fZ .u8) 1 H2 H4 u S ∧ scQ S (ts.take i) n ∧ S.length ≤ 16 * i ∧ n ≤ i ∧ ∀ x ∈ S, isB x) 0 (Nat.zero_le _) ?_ ?_
  · simp (maxSteps := 4000000) (disch := omega) only [Zq, evO, vbox, wr, Zeq, if_true, if_false, Nat.reduceEqDiff, Nat.reduceAdd, Nat.reduceLeDiff, Nat.reduceSub, and_self, and_true, true_and, reduceIte, reduceCtorEq, eq_self, implies_true, forall_const, false_implies, imp_self, decide_true, decide_false, fix_nil, fix_cons]
    exact ⟨k3, [], 0, _, rfl, rfl, o3, scQ_nil, by simp, Nat.le_refl _, by simp⟩
  rintro i T H4 hi hT ⟨t6, k4, S, n, u, t4, t5, o4, hQ, hSl, hn, hSB⟩
  simp only [fix_nil, fix_cons, Zq, evO, vbox, wr, Zeq, if_true, if_false, Nat.reduceEqDiff, Nat.reduceAdd, Nat.reduceLeDiff, Nat.reduceSub, and_self, and_true, true_and, reduceIte, reduceCtorEq, eq_self, implies_true, forall_const, false_implies, imp_self, decide_true, decide_false] at hT
  obtain ⟨t0, t3⟩ := hT
  by_cases hin : i < ts.length
  · have hti : ts[i] ∈ ts := List.getElem_mem hin
    have dr := hts _ hti
    have hbi := hB _ hti
    have hoki := drT_ok dr
    obtain ⟨wv, l1, _, _, _, rv⟩ := tel_el ((rSlc rTelegram).rdk hz k4) hin
    have ixz := fun H0 : Heap => slc_idx (r := rTelegram) (H1 := H0) (sz := 3) (i := i) (k := .i64) rfl hz hin
    have hel := enc_short dr.2.2.2.2.1
    have htk : ts.take (i + 1) = ts.take i ++ [ts[i]] := by rw [List.take_add_one, List.getElem?_eq_getElem hin]; rfl
    simp (maxSteps := 4000000) (disch := omega) only [Zq, evO, vbox, wr, Zeq, if_true, if_false, Nat.reduceEqDiff, Nat.reduceAdd, Nat.reduceLeDiff, Nat.reduceSub, and_self, and_true, true_and, reduceIte, reduceCtorEq, eq_self, implies_true, forall_const, false_implies, imp_self, decide_true, decide_false, fix_nil, fix_cons, t0, t3, t6, t4, t5, lz, ixz, l1]
    refine GO_call ((r_impl_Encode (a := ts[i].1) (b := ts[i].2.1) (bts_of rv) (by have := dr.2.2.2.2.1; omega)).mono ?_)
    rintro y H5 ⟨k5, Fy, oy, fy⟩
    have n5 := k5.nxt
    have hy5 : Bts H5 y (encR ts[i].1 ts[i].2.1 ts[i].2.2) := bts_of ((rSlc rByte).ownrd oy)
    have heB : ∀ x ∈ encR ts[i].1 ts[i].2.1 ts[i].2.2, isB x := enc_isB hbi
    obtain ⟨u6, H6, e6, o6, kk6, n6⟩ := NewF.app (bytes := 1) (fZ_len .u8) (by omega) (o4.keep k5) (IntsK.slF hy5) (by omega)
    have k6 := kk6 H2 (Nat.le_refl _) (k4.trans k5)
    have hQ6 := scQ_app hQ (scQ_enc hoki hbi)
    rw [← htk, Int.add_zero] at hQ6
    simp (maxSteps := 4000000) (disch := omega) only [Zq, evO, vbox, wr, Zeq, if_true, if_false, Nat.reduceEqDiff, Nat.reduceAdd, Nat.reduceLeDiff, Nat.reduceSub, and_self, and_true, true_and, reduceIte, reduceCtorEq, eq_self, implies_true, forall_const, false_implies, imp_self, decide_true, decide_false, fix_nil, fix_cons, t0, t3, t6, t4, t5, Zff, e6]
    refine GO_call ((r_laws_at (i := i) (IntsK.keep h (k1.trans (k2.trans k6))) hl (by omega) hc).mono ?_)
    rintro _ H7 ⟨k7, rfl⟩
    have n7 := k7.nxt
    have k67 := k6.trans k7
    have r3 := atR_range (i := i) hc
    obtain ⟨q, hq⟩ := Int.eq_ofNat_of_zero_le r3.1
    have hrem : abin .rem (.int .i64 (atR code i)) (.int .i64 2) = some (.int .i64 ((q % 2 : Nat) : Int)) := by
      rw [abin_rem (by decide), hq, Int.tmod_eq_emod_of_nonneg (by omega)]; rfl
    have o7 := o6.keep k7
    have hSB6 : ∀ x ∈ S ++ encR ts[i].1 ts[i].2.1 ts[i].2.2, isB x := fun x hx => by
      rcases List.mem_append.1 hx with hx | hx
      · exact hSB x hx
      · exact heB x hx
    have hl6 : (S ++ encR ts[i].1 ts[i].2.1 ts[i].2.2).length ≤ 16 * i + 12 := by rw [List.length_append]; omega
    by_cases hq2 : ((q % 2 : Nat) : Int) = 0
    · have p1 : NewF (fZ .u8) 1 H7 (H7.push [Value.int .u8 1, .int .u8 2, .int .u8 3, .int .u8 126]) (.slice (some ⟨H7.nxt, 0, none⟩) 4 1) [1, 2, 3, 126] := NewF.lit (f := fZ .u8) (n := 1) (xs := [1, 2, 3, 126]) (Keep.refl _)
      obtain ⟨u8, H8, e8, o8, kk8, n8⟩ := NewF.app (bytes := 1) (ys := [1, 2, 3, 126]) (fZ_len .u8) (by omega) (o7.keep (Keep.push _ _)) (IntsK.slF p1.intsK) (by simp only [List.length_cons, List.length_nil]; omega)
      have k8 := kk8 H2 (Nat.le_refl _) (k67.trans (Keep.push _ _))
      have hQ8 := scQ_app hQ6 scQ_bad
      rw [List.append_nil] at hQ8
      have hwn : IntKind.i64.wrap ((n : Int) + 1) = ((n + 1 : Nat) : Int) := by rw [wrap64 (by omega) (by omega)]; omega
      simp (maxSteps := 4000000) (disch := omega) only [Zq, evO, vbox, wr, Zeq, if_true, if_false, Nat.reduceEqDiff, Nat.reduceAdd, Nat.reduceLeDiff, Nat.reduceSub, and_self, and_true, true_and, reduceIte, reduceCtorEq, eq_self, implies_true, forall_const, false_implies, imp_self, decide_true, decide_false, fix_nil, fix_cons, t0, t3, t6, t4, t5, hrem, Zfl hq2, Zff, e8, hwn]
      exact ⟨hin, k8, _, n + 1, u8, rfl, rfl, o8, hQ8, by rw [List.length_append]; simp only [List.length_cons, List.length_nil]; omega, by omega, fun x hx => by
        rcases List.mem_append.1 hx with hx | hx
        · exact hSB6 x hx
        · simp at hx; unfold isB; omega⟩
    · simp (maxSteps := 4000000) (disch := omega) only [Zq, evO, vbox, wr, Zeq, if_true, if_false, Nat.reduceEqDiff, Nat.reduceAdd, Nat.reduceLeDiff, Nat.reduceSub, and_self, and_true, true_and, reduceIte, reduceCtorEq, eq_self, implies_true, forall_const, false_implies, imp_self, decide_true, decide_false, fix_nil, fix_cons, t0, t3, t6, t4, t5, hrem, Zfm hq2]
      exact ⟨hin, k67, _, n, u6, rfl, rfl, o7, hQ6, by omega, by omega, hSB6⟩
  obtain rfl : i = ts.length := by omega
  rw [List.take_length] at hQ
  have hsc := scQ_fin hQ (by omega)
  simp (maxSteps := 4000000) (disch := omega) only [Zq, evO, vbox, wr, Zeq, if_true, if_false, Nat.reduceEqDiff, Nat.reduceAdd, Nat.reduceLeDiff, Nat.reduceSub, and_self, and_true, true_and, reduceIte, reduceCtorEq, eq_self, implies_true, forall_const, false_implies, imp_self, decide_true, decide_false, fix_nil, fix_cons, t0, t3, t6, t4, t5, lz]
  refine GO_call ((r_impl_Scan o4.intsK hSB (by omega)).mono ?_)
  rintro _ H5 ⟨k5, ws, FS, rfl, oS, fS⟩
  have n5 := k5.nxt
  rw [hsc] at oS ⊢
  have rS := (rSlc rTelegram).ownrd oS
  have lS : ∀ H : Heap, vlen H ws = some (.int .i64 ts.length, H) := fun _ => slc_len rS
  have w1 := (slc_cell rS).1
  have k45 := k4.trans k5
  simp (maxSteps := 4000000) (disch := omega) only [Zq, evO, vbox, wr, Zeq, if_true, if_false, Nat.reduceEqDiff, Nat.reduceAdd, Nat.reduceLeDiff, Nat.reduceSub, and_self, and_true, true_and, reduceIte, reduceCtorEq, eq_self, implies_true, forall_const, false_implies, imp_self, decide_true, decide_false, fix_nil, fix_cons, t0, t3, t6, t4, t5, w1, lS, lz, Zfl (rfl : (n : Int) = n), Zfl (rfl : (ts.length : Int) = ts.length)]
  refine G_forF [3, 7] (ts.length) (fun i T H6 => T 9 = .int .i64 (i : Int) ∧ Keep H5 H6) 0 (Nat.zero_le _) ?_ ?_
  · simp (maxSteps := 4000000) (disch := omega) only [Zq, evO, vbox, wr, Zeq, if_true, if_false, Nat.reduceEqDiff, Nat.reduceAdd, Nat.reduceLeDiff, Nat.reduceSub, and_self, and_true, true_and, reduceIte, reduceCtorEq, eq_self, implies_true, forall_const, false_implies, imp_self, decide_true, decide_false, fix_nil, fix_cons, t0, t3, t6, t4, t5]
    exact Keep.refl _
  rintro i T H6 hi hT ⟨t9, k6⟩
  simp only [fix_nil, fix_cons, Zq, evO, vbox, wr, Zeq, if_true, if_false, Nat.reduceEqDiff, Nat.reduceAdd, Nat.reduceLeDiff, Nat.reduceSub, and_self, and_true, true_and, reduceIte, reduceCtorEq, eq_self, implies_true, forall_const, false_implies, imp_self, decide_true, decide_false, t0, t3, t6, t4, t5] at hT
  obtain ⟨t3, t7⟩ := hT
  have k46 := k45.trans k6
  by_cases hin : i < ts.length
  · obtain ⟨wv, l1, _, _, _, rv⟩ := tel_el ((rSlc rTelegram).rdk hz k46) hin
    obtain ⟨wu, l2, _, _, _, ru⟩ := tel_el ((rSlc rTelegram).rdk rS k6) hin
    have ixz := fun H0 : Heap => slc_idx (r := rTelegram) (H1 := H0) (sz := 3) (i := i) (k := .i64) rfl hz hin
    have ixs := fun H0 : Heap => slc_idx (r := rTelegram) (H1 := H0) (sz := 3) (i := i) (k := .i64) rfl rS hin
    have hbi := hB _ (List.getElem_mem hin)
    simp (maxSteps := 4000000) (disch := omega) only [Zq, evO, vbox, wr, Zeq, if_true, if_false, Nat.reduceEqDiff, Nat.reduceAdd, Nat.reduceLeDiff, Nat.reduceSub, and_self, and_true, true_and, reduceIte, reduceCtorEq, eq_self, implies_true, forall_const, false_implies, imp_self, decide_true, decide_false, fix_nil, fix_cons, t0, t3, t6, t4, t5, t7, t9, lz]
    refine G_tame rfl ?_
    simp (maxSteps := 4000000) (disch := omega) only [Zq, evO, vbox, wr, Zeq, if_true, if_false, Nat.reduceEqDiff, Nat.reduceAdd, Nat.reduceLeDiff, Nat.reduceSub, and_self, and_true, true_and, reduceIte, reduceCtorEq, eq_self, implies_true, forall_const, false_implies, imp_self, decide_true, decide_false, fix_nil, fix_cons, t0, t3, t6, t4, t5, t7, t9, ixz, ixs, l1, l2]
    refine GO_call ((r_laws_sameTelegram (a := ts[i]) (b := ts[i]) (bts_of ru) (bts_of rv) hbi hbi).mono ?_)
    rintro _ H7 ⟨k7, rfl⟩
    have n7 := k7.nxt
    simp (maxSteps := 4000000) (disch := omega) only [Zq, evO, vbox, wr, Zeq, if_true, if_false, Nat.reduceEqDiff, Nat.reduceAdd, Nat.reduceLeDiff, Nat.reduceSub, and_self, and_true, true_and, reduceIte, reduceCtorEq, eq_self, implies_true, forall_const, false_implies, imp_self, decide_true, decide_false, fix_nil, fix_cons, t0, t3, t6, t4, t5, t7, t9, decide_eq_true (rfl : ts[i] = ts[i])]
    exact ⟨hin, k6.trans k7⟩
  obtain rfl : i = ts.length := by omega
  simp (maxSteps := 4000000) (disch := omega) only [Zq, evO, vbox, wr, Zeq, if_true, if_false, Nat.reduceEqDiff, Nat.reduceAdd, Nat.reduceLeDiff, Nat.reduceSub, and_self, and_true, true_and, reduceIte, reduceCtorEq, eq_self, implies_true, forall_const, false_implies, imp_self, decide_true, decide_false, fix_nil, fix_cons, t0, t3, t6, t4, t5, t7, t9, lz]
  refine GO_call ((r_impl_Axles (ts := ts) ((rSlc rTelegram).rdk rS k6) (by omega)).mono ?_)
  rintro _ H7 ⟨k7, rfl⟩
  have n7 := k7.nxt
  simp (maxSteps := 4000000) (disch := omega) only [Zq, evO, vbox, wr, Zeq, if_true, if_false, Nat.reduceEqDiff, Nat.reduceAdd, Nat.reduceLeDiff, Nat.reduceSub, and_self, and_true, true_and, reduceIte, reduceCtorEq, eq_self, implies_true, forall_const, false_implies, imp_self, decide_true, decide_false, fix_nil, fix_cons, t0, t3, t6, t4, t5, t7, t9]
  refine GO_call ((r_spec_Axles ((rSlc rTelegram).rdk hz (k46.trans k7)) (by omega)).mono ?_)
  rintro _ H8 ⟨k8, rfl⟩
  have n8 := k8.nxt
  simp (maxSteps := 4000000) (disch := omega) only [Zq, evO, vbox, wr, Zeq, if_true, if_false, Nat.reduceEqDiff, Nat.reduceAdd, Nat.reduceLeDiff, Nat.reduceSub, and_self, and_true, true_and, reduceIte, reduceCtorEq, eq_self, implies_true, forall_const, false_implies, imp_self, decide_true, decide_false, fix_nil, fix_cons, t0, t3, t6, t4, t5, t7, t9, Zfl (rfl : (axR ts).1 = (axR ts).1), Zfl (rfl : (axR ts).2 = (axR ts).2)]
theorem go_laws_FnScan (H : Heap) (xs : List Value) (h : GoodArgs Tryd.prog H Tryd.f5.params.toList xs) : ∃ H', CR Tryd.prog 5 xs H (.bool true) H' := by
  rw [Tryd.params5] at h
  obtain ⟨v, l, rfl, h1, h2⟩ := good_args_cons h
  obtain rfl := good_args_nil h2
  obtain ⟨_, g⟩ := goodV_one (by kernel_rfl) h1
  obtain ⟨w, code, e, hi, hm, hwf⟩ := good_ints (e := 5) (k := .u8) (by kernel_rfl) (by kernel_rfl) (by kernel_rfl) g
  simp at e
  subst e
  obtain ⟨r, H', hr, rfl⟩ := r_laws_FnScan hi (fun x hx => wf8 (hwf x hx))
  exact ⟨H', hr⟩
end Go.Proofs.YtiajbefljkikiaaDoor.AX
