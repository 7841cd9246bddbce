/- How long trips wait: the two ways. No condition beyond each law's own; of the program: the functions' forms. -/
import Derived.Test.YtjjglonmaajjoaaXG
import Derived.Test.YtjjglonmaajjoaaPds
import Derived.Test.YtjjglonmaajjoaaPdm
import Derived.Test.YtjjglonmaajjoaaPdn
namespace Go.Proofs.Ytjjglonmaajjoaa.AX
open Go
set_option maxRecDepth 10000
set_option maxHeartbeats 4000000
set_option linter.unusedSimpArgs false
set_option linter.unusedVariables false
def waitO (n : Int) (es : List Ed) (l : List Tp) (la : List Int) : Int := if dayOk n es l la = true then wsum l la (pday es l la) (pday es l la) else -1
section
variable {H : Heap} {v w u : Value} {n : Int} {es : List Ed} {l : List Tp} {la : List Int}
theorem r_impl_Waited (he : (rSlc rEdge).rd H [v] es) (hl : es.length ≤ 1048576) (hr : (rSlc rTrip).rd H [w] l) (ht : (rSlc rTrip).tot l ≤ 1048576) (hu : (rSlc rInt).rd H [u] la) (hul : la.length ≤ 1048576) : Run Try.prog 20 [.agg #[.int .i64 n, v], w, u] H fun r H' => Keep H H' ∧ r = .int .i64 (waitO n es l la) := by
  refine Run.intro c20 rfl ?_
  simp (maxSteps := 4000000) (disch := omega) only [Zq, evO, vbox, wr, Zeq, if_true, if_false, Nat.reduceEqDiff, Nat.reduceAdd, Nat.reduceLeDiff, Nat.reduceSub, and_self, and_true, true_and, reduceIte, reduceCtorEq, eq_self, implies_true, forall_const, false_implies, imp_self, decide_true, decide_false, x20]
  generalize hG0 : H.push [.int .i64 n, v] = H0
  have k0 : Keep H H0 := by rw [← hG0]; exact Keep.push _ _
  have g0 : H0.get H.nxt = some (.own [.int .i64 n, v]) := by rw [← hG0, push_get', if_pos rfl]
  have n0 : H0.nxt = H.nxt + 1 := by rw [← hG0, Zbg]
  refine GO_call ((r_impl_DayOk (n := n) ((rSlc rEdge).rdk he k0) hl ((rSlc rTrip).rdk hr k0) ht ((rSlc rInt).rdk hu k0) hul).mono ?_)
  rintro _ H1 ⟨k1, rfl⟩
  have n1 := k1.nxt
  have g1 := (k1.get (H.nxt) (by omega)).trans g0
  have k01 := k0.trans k1
  cases ok : dayOk n es l la with
  | false =>
    simp (maxSteps := 4000000) (disch := omega) only [Zq, evO, vbox, wr, Zeq, if_true, if_false, Nat.reduceEqDiff, Nat.reduceAdd, Nat.reduceLeDiff, Nat.reduceSub, and_self, and_true, true_and, reduceIte, reduceCtorEq, eq_self, implies_true, forall_const, false_implies, imp_self, decide_true, decide_false, fix_nil, fix_cons, g0, g1, ok]
    exact ⟨k01, by rw [waitO, ok]; rfl⟩
  | true =>
  obtain ⟨d, rok⟩ := dy_of ok
  simp (maxSteps := 4000000) (disch := omega) only [Zq, evO, vbox, wr, Zeq, if_true, if_false, Nat.reduceEqDiff, Nat.reduceAdd, Nat.reduceLeDiff, Nat.reduceSub, and_self, and_true, true_and, reduceIte, reduceCtorEq, eq_self, implies_true, forall_const, false_implies, imp_self, decide_true, decide_false, fix_nil, fix_cons, g0, g1, ok]
  refine GO_call ((r_play (n := n) d ((rSlc rEdge).rdk he k01) ((rSlc rTrip).rdk hr k01) ((rSlc rInt).rdk hu k01)).mono ?_)
  rintro r2 H2 hp
  obtain ⟨q, R, A, B, C, D, rfl, hq, g2, k2, _⟩ := hp.runs
  simp (maxSteps := 4000000) (disch := omega) only [Zq, evO, vbox, wr, Zeq, if_true, if_false, Nat.reduceEqDiff, Nat.reduceAdd, Nat.reduceLeDiff, Nat.reduceSub, and_self, and_true, true_and, reduceIte, reduceCtorEq, eq_self, implies_true, forall_const, false_implies, imp_self, decide_true, decide_false, fix_nil, fix_cons, g0, g1, g2, g2]
  exact ⟨k01.trans k2, by rw [waitO, if_pos ok]⟩
theorem wsum_take {rs0 rs : List Rn} {j : Nat} (hj : j < rs.length) : wsum l la rs0 (rs.take (j + 1)) = wsum l la rs0 (rs.take j) + ((rn rs j).2.2.1 - rdy l la rs0 (rn rs j).1.toNat (rn rs j).2.1.toNat) := by
  rw [take_snoc rs (0, 0, 0, 0) hj, wsum_app]; rfl
theorem r_spec_Waited (he : (rSlc rEdge).rd H [v] es) (hl : es.length ≤ 1048576) (hr : (rSlc rTrip).rd H [w] l) (ht : (rSlc rTrip).tot l ≤ 1048576) (hu : (rSlc rInt).rd H [u] la) (hul : la.length ≤ 1048576) : Run Try.prog 23 [.agg #[.int .i64 n, v], w, u] H fun r H' => Keep H H' ∧ r = .int .i64 (waitO n es l la) := by
  refine Run.intro c23 rfl ?_
  simp (maxSteps := 4000000) (disch := omega) only [Zq, evO, vbox, wr, Zeq, if_true, if_false, Nat.reduceEqDiff, Nat.reduceAdd, Nat.reduceLeDiff, Nat.reduceSub, and_self, and_true, true_and, reduceIte, reduceCtorEq, eq_self, implies_true, forall_const, false_implies, imp_self, decide_true, decide_false, x23]
  generalize hG0 : H.push [.int .i64 n, v] = H0
  have k0 : Keep H H0 := by rw [← hG0]; exact Keep.push _ _
  have g0 : H0.get H.nxt = some (.own [.int .i64 n, v]) := by rw [← hG0, push_get', if_pos rfl]
  have n0 : H0.nxt = H.nxt + 1 := by rw [← hG0, Zbg]
  refine GO_call ((r_spec_DayOk (n := n) ((rSlc rEdge).rdk he k0) hl ((rSlc rTrip).rdk hr k0) ht ((rSlc rInt).rdk hu k0) hul).mono ?_)
  rintro _ H1 ⟨k1, rfl⟩
  have n1 := k1.nxt
  have g1 := (k1.get (H.nxt) (by omega)).trans g0
  have k01 := k0.trans k1
  cases ok : dayOk n es l la with
  | false =>
    simp (maxSteps := 4000000) (disch := omega) only [Zq, evO, vbox, wr, Zeq, if_true, if_false, Nat.reduceEqDiff, Nat.reduceAdd, Nat.reduceLeDiff, Nat.reduceSub, and_self, and_true, true_and, reduceIte, reduceCtorEq, eq_self, implies_true, forall_const, false_implies, imp_self, decide_true, decide_false, fix_nil, fix_cons, g0, g1, ok]
    exact ⟨k01, by rw [waitO, ok]; rfl⟩
  | true =>
  obtain ⟨d, rok⟩ := dy_of ok
  simp (maxSteps := 4000000) (disch := omega) only [Zq, evO, vbox, wr, Zeq, if_true, if_false, Nat.reduceEqDiff, Nat.reduceAdd, Nat.reduceLeDiff, Nat.reduceSub, and_self, and_true, true_and, reduceIte, reduceCtorEq, eq_self, implies_true, forall_const, false_implies, imp_self, decide_true, decide_false, fix_nil, fix_cons, g0, g1, ok]
  refine GO_call ((r_spec_PlayDay (n := n) ((rSlc rEdge).rdk he k01) hl ((rSlc rTrip).rdk hr k01) ht ((rSlc rInt).rdk hu k01) hul).mono ?_)
  rintro z H2 ⟨k2, oz⟩
  rw [noOr, if_pos ok] at oz
  have hz := oz.rd
  have k02 := k01.trans k2
  obtain ⟨S, g, hf, ep⟩ := pday_fact d
  have hlen := gd_len d g
  rw [waitO, if_pos ok]
  rw [ep] at hz ⊢
  have lz : ∀ H : Heap, vlen H z = some (.int .i64 S.1.length, H) := fun _ => slc_len hz
  simp (maxSteps := 4000000) (disch := omega) only [Zq, evO, vbox, wr, Zeq, if_true, if_false, Nat.reduceEqDiff, Nat.reduceAdd, Nat.reduceLeDiff, Nat.reduceSub, and_self, and_true, true_and, reduceIte, reduceCtorEq, eq_self, implies_true, forall_const, false_implies, imp_self, decide_true, decide_false, fix_nil, fix_cons, g0, g1]
  refine G_forF [1, 2, 7] (S.1.length) (fun j T H3 => T 9 = .int .i64 (j : Int) ∧ T 8 = .int .i64 (wsum l la S.1 (S.1.take j)) ∧ Keep H2 H3) 0 (Nat.zero_le _) ?_ ?_
  · simp (maxSteps := 4000000) (disch := omega) only [Zq, evO, vbox, wr, Zeq, if_true, if_false, Nat.reduceEqDiff, Nat.reduceAdd, Nat.reduceLeDiff, Nat.reduceSub, and_self, and_true, true_and, reduceIte, reduceCtorEq, eq_self, implies_true, forall_const, false_implies, imp_self, decide_true, decide_false, fix_nil, fix_cons, g0, g1]
    exact ⟨rfl, Keep.refl _⟩
  rintro j T H3 hj hT ⟨t9, t8, k3⟩
  simp only [fix_nil, fix_cons, Zq, evO, vbox, wr, Zeq, if_true, if_false, Nat.reduceEqDiff, Nat.reduceAdd, Nat.reduceLeDiff, Nat.reduceSub, and_self, and_true, true_and, reduceIte, reduceCtorEq, eq_self, implies_true, forall_const, false_implies, imp_self, decide_true, decide_false] at hT
  obtain ⟨t1, t2, t7⟩ := hT
  by_cases hjn : j < S.1.length
  rotate_left
  · obtain rfl : j = S.1.length := by omega
    simp (maxSteps := 4000000) (disch := omega) only [Zq, evO, vbox, wr, Zeq, if_true, if_false, Nat.reduceEqDiff, Nat.reduceAdd, Nat.reduceLeDiff, Nat.reduceSub, and_self, and_true, true_and, reduceIte, reduceCtorEq, eq_self, implies_true, forall_const, false_implies, imp_self, decide_true, decide_false, fix_nil, fix_cons, g0, g1, t1, t2, t7, t9, t8, lz]
    exact ⟨k02.trans k3, by rw [List.take_length]⟩
  have k03 := k02.trans k3
  have n3 := k3.nxt
  have ixz := fun H0 : Heap => slc_idx (r := rRun) (H1 := H0) (sz := 4) (i := j) (k := .i64) rfl hz hjn
  have fxz := fun (H0 : Heap) (o off : Nat) => slc_fad (r := rRun) (H1 := H0) (sz := 4) (i := j) (o := o) (off := off) rfl hz hjn
  have txz := fun (ix o : Nat) => slc_trL (r := rRun) (sz := 4) (i := j) (ix := ix) (o := o) rfl hz hjn
  have bx := slc_blk hz hjn
  have hmem : rn S.1 j ∈ S.1 := by rw [rn, getD_get _ _ hjn]; exact List.getElem_mem hjn
  have hgt := g.gt _ hmem
  obtain ⟨p, q, hp, hq, hpl, hql⟩ := g.behind hmem
  have hgk := g.gk p hpl
  obtain ⟨z0, z1, z2, z3⟩ := run_cel hz hjn H3 k3
  rw [hp] at z0
  rw [hq] at z1
  have hws := wsum_take (l := l) (la := la) (rs0 := S.1) hjn
  rw [hp, hq, Int.toNat_natCast, Int.toNat_natCast] at hws
  have bnd : ∀ k, k ≤ S.1.length → -9000000000 ≤ wsum l la S.1 (S.1.take k) ∧ wsum l la S.1 (S.1.take k) ≤ 9000000000 := fun k hk => by
    have := wsum_bd (l := l) (la := la) (B := 30000000) (rs := S.1.take k) (rs0 := S.1) (fun r hr => g.rdb d (List.mem_of_mem_take hr))
    have hl : (S.1.take k).length ≤ 264 := by rw [List.length_take]; omega
    omega
  have b1 := bnd j hj
  have b2 := bnd (j + 1) hjn
  have b3 := g.rdb d hmem
  rw [hp, hq, Int.toNat_natCast, Int.toNat_natCast] at b3
  have hw1 : IntKind.i64.wrap (wsum l la S.1 (S.1.take j) + (rn S.1 j).2.2.1) = wsum l la S.1 (S.1.take j) + (rn S.1 j).2.2.1 := wrap64 (by omega) (by omega)
  have hw2 : IntKind.i64.wrap (wsum l la S.1 (S.1.take j) + (rn S.1 j).2.2.1 - rdy l la S.1 p q) = wsum l la S.1 (S.1.take (j + 1)) := by rw [wrap64 (by omega) (by omega), hws]; omega
  simp (maxSteps := 4000000) (disch := omega) only [Zq, evO, vbox, wr, Zeq, if_true, if_false, Nat.reduceEqDiff, Nat.reduceAdd, Nat.reduceLeDiff, Nat.reduceSub, and_self, and_true, true_and, reduceIte, reduceCtorEq, eq_self, implies_true, forall_const, false_implies, imp_self, decide_true, decide_false, fix_nil, fix_cons, g0, g1, t1, t2, t7, t9, t8, lz]
  simp (maxSteps := 4000000) (disch := omega) only [ZD, Zio, Zip, pre_, beq_self_eq_true, Nat.reduceBEq, Zq, evO, vbox, wr, Zeq, if_true, if_false, Nat.reduceEqDiff, Nat.reduceAdd, Nat.reduceLeDiff, Nat.reduceSub, and_self, and_true, true_and, reduceIte, reduceCtorEq, eq_self, implies_true, forall_const, false_implies, imp_self, decide_true, decide_false, fix_nil, fix_cons, g0, g1, t1, t2, t7, t9, t8, G_dreg, ixz, fxz, txz, z0, z1, z2, hw1]
  refine GD_call ((r_spec_l21Ready (k := q) d ((rSlc rTrip).rdk hr k03) (ints_of ((rSlc rInt).rdk hu k03)) ((rSlc rRun).rdk hz k3) (by omega) hpl (by omega)).mono ?_)
  rintro _ H4 ⟨k4, rfl⟩
  simp (maxSteps := 4000000) (disch := omega) only [ZD, Zio, Zip, pre_, beq_self_eq_true, Nat.reduceBEq, Zq, evO, vbox, wr, Zeq, if_true, if_false, Nat.reduceEqDiff, Nat.reduceAdd, Nat.reduceLeDiff, Nat.reduceSub, and_self, and_true, true_and, reduceIte, reduceCtorEq, eq_self, implies_true, forall_const, false_implies, imp_self, decide_true, decide_false, fix_nil, fix_cons, g0, g1, t1, t2, t7, t9, t8, hw2]
  first | with_reducible refine And.intro (by repeat' (first | apply And.intro | omega | exact k4.get _ (by omega))) ?_ | skip
  exact ⟨hjn, k3.trans k4⟩
end
end Go.Proofs.Ytjjglonmaajjoaa.AX
