/- Drawn days. No condition beyond each law's own; of the program: the functions' forms. -/
import Derived.Test.YtjjglonmaajjoaaDw5
namespace Go.Proofs.Ytjjglonmaajjoaa.AX
open Go
set_option maxRecDepth 10000
set_option maxHeartbeats 4000000
set_option linter.unusedSimpArgs false
set_option linter.unusedVariables false
section
variable {B : Heap} {v : Value} {code : List Int} {p : Nat} {H : Heap}
theorem ints_lit {xs : List Int} : Ints (H.push (xs.map (Value.int .i64))) (.slice (some ⟨H.nxt, 0, none⟩) xs.length 1) xs :=
  sl_own (by rw [Zbg]; omega) (by rw [push_get', if_pos rfl]) (by simp)
theorem r_spec_l21DrawLate {w : Value} {l : List Tp} {Fl : List Nat} (hb : Bts' B v code) (hl : code.length ≤ 1048576) (hc : ∀ x ∈ code, 0 ≤ x ∧ x ≤ 255) (c : Cur B v code H p) (ol : (rSlc rTrip).own H [w] l Fl) (hll : l.length ≤ 6) : Run Try.prog 55 [ptr p 0, w] H fun r H' => Chg [p] H H' ∧ Cur B v code H' p ∧ ∃ la F, (rSlc rInt).own H' [r] la F ∧ (∀ a ∈ F, H.nxt ≤ a) ∧ la.length = l.length ∧ ∀ x ∈ la, 0 ≤ x ∧ x ≤ 10000 := by
  have lw : ∀ H : Heap, vlen H w = some (.int .i64 l.length, H) := fun _ => slc_len ((rSlc rTrip).ownrd ol)
  refine Run.intro c55 rfl ?_
  simp (maxSteps := 4000000) (disch := omega) only [Zq, evO, vbox, wr, Zeq, if_true, if_false, Nat.reduceEqDiff, Nat.reduceAdd, Nat.reduceLeDiff, Nat.reduceSub, and_self, and_true, true_and, reduceIte, reduceCtorEq, eq_self, implies_true, forall_const, false_implies, imp_self, decide_true, decide_false, x55]
  have gp0 := GP.new (r := rInt) (sz := 1) c rfl
  generalize hG1 : H.push [] = H1 at gp0
  refine G_forF [0, 1] (l.length) (fun i T H2 => T 6 = .int .i64 (i : Int) ∧ ∃ (u : Value) (la : List Int) (F : List Nat), T 5 = u ∧ GP rInt B v code p H H2 u la F ∧ la.length = i ∧ ∀ x ∈ la, 0 ≤ x ∧ x ≤ 10000) 0 (Nat.zero_le _) ?_ ?_
  · simp (maxSteps := 4000000) (disch := omega) only [Zq, evO, vbox, wr, Zeq, if_true, if_false, Nat.reduceEqDiff, Nat.reduceAdd, Nat.reduceLeDiff, Nat.reduceSub, and_self, and_true, true_and, reduceIte, reduceCtorEq, eq_self, implies_true, forall_const, false_implies, imp_self, decide_true, decide_false, fix_nil, fix_cons]
    exact ⟨_, [], _, rfl, gp0, rfl, fun x hx => (by cases hx)⟩
  rintro i T H2 hi hT ⟨t6, u, la, F, t5, gp2, hla, hx⟩
  simp only [fix_nil, fix_cons, Zq, evO, vbox, wr, Zeq, if_true, if_false, Nat.reduceEqDiff, Nat.reduceAdd, Nat.reduceLeDiff, Nat.reduceSub, and_self, and_true, true_and, reduceIte, reduceCtorEq, eq_self, implies_true, forall_const, false_implies, imp_self, decide_true, decide_false] at hT
  obtain ⟨t0, t1⟩ := hT
  by_cases hin : i < l.length
  rotate_left
  · obtain rfl : i = l.length := by omega
    obtain ⟨x1, x2⟩ := slc_cell ((rSlc rInt).ownrd gp2.o)
    simp (maxSteps := 4000000) (disch := omega) only [Zq, evO, vbox, wr, Zeq, if_true, if_false, Nat.reduceEqDiff, Nat.reduceAdd, Nat.reduceLeDiff, Nat.reduceSub, and_self, and_true, true_and, reduceIte, reduceCtorEq, eq_self, implies_true, forall_const, false_implies, imp_self, decide_true, decide_false, fix_nil, fix_cons, t0, t1, t6, t5, lw, x1, x2]
    exact ⟨gp2.chg, gp2.cur, la, F, gp2.o, gp2.fr, hla, hx⟩
  simp (maxSteps := 4000000) (disch := omega) only [Zq, evO, vbox, wr, Zeq, if_true, if_false, Nat.reduceEqDiff, Nat.reduceAdd, Nat.reduceLeDiff, Nat.reduceSub, and_self, and_true, true_and, reduceIte, reduceCtorEq, eq_self, implies_true, forall_const, false_implies, imp_self, decide_true, decide_false, fix_nil, fix_cons, t0, t1, t6, t5, lw]
  refine GO_call ((r_spec_l01Below (n := 20) hb hl hc gp2.cur (by omega) (by omega)).mono ?_)
  rintro _ H3 ⟨c3, u3, z3, rfl, hz3⟩
  have gp3 := gp2.mv c3 u3
  simp (maxSteps := 4000000) (disch := omega) only [Zq, evO, vbox, wr, Zeq, if_true, if_false, Nat.reduceEqDiff, Nat.reduceAdd, Nat.reduceLeDiff, Nat.reduceSub, and_self, and_true, true_and, reduceIte, reduceCtorEq, eq_self, implies_true, forall_const, false_implies, imp_self, decide_true, decide_false, fix_nil, fix_cons, t0, t1, t6, t5]
  obtain ⟨ys, hys⟩ : ∃ ys : List Int, ys = [0, 0, 0, (z3 : Int)] := ⟨_, rfl⟩
  have hJ : Ints (H3.push (ys.map (Value.int .i64))) (.slice (some ⟨H3.nxt, 0, none⟩) ys.length 1) ys := ints_lit
  have hy4 : ys.length = 4 := by rw [hys]; rfl
  have hyb : ∀ x ∈ ys, 0 ≤ x ∧ x ≤ 10000 := by rw [hys]; intro x hx; simp at hx; omega
  have hmap : ys.map (Value.int .i64) = [.int .i64 0, .int .i64 0, .int .i64 0, .int .i64 z3] := by rw [hys]; rfl
  rw [hy4] at hJ
  rw [hmap] at hJ
  generalize hG4 : H3.push [Value.int .i64 0, .int .i64 0, .int .i64 0, .int .i64 z3] = H4 at hJ
  have k4 : Keep H3 H4 := by rw [← hG4]; exact Keep.push _ _
  have gp4 := gp3.keep k4
  have pl3 := gp3.cur.2.2.1
  refine GO_call ((r_spec_l01PickInt hb hl hc gp4.cur hJ (by show H3.nxt ≠ p; omega) (by omega) (by omega)).mono ?_)
  rintro _ H5 ⟨c5, u5, z5, hz5, rfl⟩
  have gp5 := gp4.mv c5 u5
  have hyd := hyb (ys.getD z5 0) (by rw [getD_get _ _ hz5]; exact List.getElem_mem hz5)
  generalize ys.getD z5 0 = e at hyd
  obtain ⟨u6, H6, F6, e6, gp6, n6, _⟩ := gp5.app (bytes := 8) (sz := 1) rfl (by omega) (row := [.int .i64 e]) (y := e) (G := []) ⟨rfl, rfl⟩ (by simp) (by simp) (by omega)
  simp (maxSteps := 4000000) (disch := omega) only [Zq, evO, vbox, wr, Zeq, if_true, if_false, Nat.reduceEqDiff, Nat.reduceAdd, Nat.reduceLeDiff, Nat.reduceSub, and_self, and_true, true_and, reduceIte, reduceCtorEq, eq_self, implies_true, forall_const, false_implies, imp_self, decide_true, decide_false, fix_nil, fix_cons, t0, t1, t6, t5, e6]
  exact ⟨hin, u6, _, F6, rfl, gp6, by simp; omega, fun x hx' => by
    rcases List.mem_append.1 hx' with h | h
    · exact hx x h
    · simp only [List.mem_singleton] at h
      subst h
      exact hyd⟩
theorem r_spec_DrawRightDay (hb : Bts' H v code) (hl : code.length ≤ 1048576) (hc : ∀ x ∈ code, 0 ≤ x ∧ x ≤ 255) : Run Try.prog 15 [v] H fun r H' => Keep H H' ∧ ∃ (N : Nat) (vn : Value) (es : List Ed) (w : Value) (l : List Tp) (u : Value) (la : List Int), r = .tuple #[.agg #[.int .i64 (N : Int), vn], w, u] ∧ (rSlc rEdge).rd H' [vn] es ∧ (rSlc rTrip).rd H' [w] l ∧ (rSlc rInt).rd H' [u] la ∧ es.length ≤ 60 ∧ l.length ≤ 6 ∧ (∀ i, i < l.length → (tp l i).2.length ≤ 4) ∧ dayOk N es l la = true := by
  refine Run.intro c15 rfl ?_
  simp (maxSteps := 4000000) (disch := omega) only [Zq, evO, vbox, wr, Zeq, if_true, if_false, Nat.reduceEqDiff, Nat.reduceAdd, Nat.reduceLeDiff, Nat.reduceSub, and_self, and_true, true_and, reduceIte, reduceCtorEq, eq_self, implies_true, forall_const, false_implies, imp_self, decide_true, decide_false, x15]
  generalize hG1 : H.push [.int .i64 0, .slice none 0 0] = H1
  have k1 : Keep H H1 := by rw [← hG1]; exact Keep.push _ _
  have n1 : H1.nxt = H.nxt + 1 := by rw [← hG1, Zbg]
  have g1 : H1.get H.nxt = some (.own [.int .i64 0, .slice none 0 0]) := by rw [← hG1, push_get', if_pos rfl]
  clear hG1
  refine GO_call ((r_spec_l01New hb hl k1).mono ?_)
  rintro _ H2 ⟨k2, p, rfl, hp, cu⟩
  have n2 := k2.nxt
  have g2 := (k2.get H.nxt (by omega)).trans g1
  simp (maxSteps := 4000000) (disch := omega) only [Zq, evO, vbox, wr, Zeq, if_true, if_false, Nat.reduceEqDiff, Nat.reduceAdd, Nat.reduceLeDiff, Nat.reduceSub, and_self, and_true, true_and, reduceIte, reduceCtorEq, eq_self, implies_true, forall_const, false_implies, imp_self, decide_true, decide_false, fix_nil, fix_cons, g1, g2]
  refine GO_call ((r_spec_l09DrawBoth hb hl hc cu (k1.trans k2)).mono ?_)
  rintro _ H3 ⟨c3, u3, N, vn, es, Fe, w, l, F, rfl, oE, fE, oL, fL, hN2, hN5, hok, hel, ti, hl6⟩
  have n3 := c3.nxt
  have g3 := (c3.get H.nxt (by omega) (by simp; omega)).trans g2
  obtain ⟨y1, y2⟩ := slc_cell ((rSlc rEdge).ownrd oE)
  simp (maxSteps := 4000000) (disch := omega) only [Zq, evO, vbox, wr, Zeq, if_true, if_false, Nat.reduceEqDiff, Nat.reduceAdd, Nat.reduceLeDiff, Nat.reduceSub, and_self, and_true, true_and, reduceIte, reduceCtorEq, eq_self, implies_true, forall_const, false_implies, imp_self, decide_true, decide_false, fix_nil, fix_cons, g1, g2, g3, y1, y2]
  generalize hG4 : (H3.push [.int .i64 0, .slice none 0 0]).set H3.nxt [.int .i64 (N : Int), vn] = H4
  have k4 : Keep H3 H4 := by rw [← hG4]; repeat' (first | exact Keep.refl _ | assumption | refine Keep.push' ?_ | refine Keep.set' ?_ ?_ | refine Keep.moved' ?_ ?_ | omega)
  have g4 : H4.get H3.nxt = some (.own [.int .i64 (N : Int), vn]) := by rw [← hG4, Zbi, if_pos rfl]
  have n4 : H4.nxt = H3.nxt + 1 := by rw [← hG4, Zbh, Zbg]
  have g4n := (k4.get H.nxt (by omega)).trans g3
  simp (maxSteps := 4000000) (disch := omega) only [ZD, Zio, Zip, pre_, beq_self_eq_true, Nat.reduceBEq, Zq, evO, vbox, wr, Zeq, if_true, if_false, Nat.reduceEqDiff, Nat.reduceAdd, Nat.reduceLeDiff, Nat.reduceSub, and_self, and_true, true_and, reduceIte, reduceCtorEq, eq_self, implies_true, forall_const, false_implies, imp_self, decide_true, decide_false, fix_nil, fix_cons, g1, g2, g3, g4, g4n, G_dreg]
  refine GD_call ((r_spec_l21DrawLate hb hl hc (u3.chg k4) ((rSlc rTrip).ownKeep oL k4) hl6).mono ?_)
  rintro u H5 ⟨c5, u5, la, Fa, oA, fA, hla, hlb⟩
  have n5 := c5.nxt
  have pl4 := u3.2.2.1
  have old5 : ∀ z, (z ≠ p ∧ z < H4.nxt) → H5.get z = H4.get z := fun z hz => c5.get z hz.2 (by simp; exact hz.1)
  have g5n := (old5 H.nxt (by omega)).trans g4n
  have g5 := (old5 H3.nxt (by omega)).trans g4
  obtain ⟨x1, x2⟩ := slc_cell ((rSlc rInt).ownrd oA)
  obtain ⟨w1, w2⟩ := slc_cell ((rSlc rTrip).ownrd oL)
  simp (maxSteps := 4000000) (disch := omega) only [ZD, Zio, Zip, pre_, beq_self_eq_true, Nat.reduceBEq, Zq, evO, vbox, wr, Zeq, if_true, if_false, Nat.reduceEqDiff, Nat.reduceAdd, Nat.reduceLeDiff, Nat.reduceSub, and_self, and_true, true_and, reduceIte, reduceCtorEq, eq_self, implies_true, forall_const, false_implies, imp_self, decide_true, decide_false, fix_nil, fix_cons, g1, g2, g3, g4, g4n, g5n, g5, y1, y2, x1, x2, w1, w2]
  have oE5 := (rSlc rEdge).ownChg ((rSlc rEdge).ownKeep oE k4) c5 (fun a ha hm => by have := fE a ha; simp at hm; have := cu.2.2.1; omega)
  have oL5 := (rSlc rTrip).ownChg ((rSlc rTrip).ownKeep oL k4) c5 (fun a ha hm => by have := fL a ha; simp at hm; have := cu.2.2.1; omega)
  have cup := cu.2.2.1
  refine ⟨⟨by rw [Zbh]; omega, fun a ha => ?_⟩, N, vn, es, w, l, u, la, rfl, (rSlc rEdge).ownrd ((rSlc rEdge).ownk oE5 (by rw [Zbh]; exact Nat.le_refl _) (fun a ha => by rw [Zbi, if_neg (by have := fE a ha; omega)])), (rSlc rTrip).ownrd ((rSlc rTrip).ownk oL5 (by rw [Zbh]; exact Nat.le_refl _) (fun a ha => by rw [Zbi, if_neg (by have := fL a ha; omega)])), (rSlc rInt).ownrd ((rSlc rInt).ownk oA (by rw [Zbh]; exact Nat.le_refl _) (fun a ha => by rw [Zbi, if_neg (by have := fA a ha; omega)])), hel, hl6, fun i hi => (ti i hi).2.2, ?_⟩
  · rw [Zbi, if_neg (by omega), old5 a (by omega), k4.get a (by omega), c3.get a (by omega) (by simp; omega), k2.get a (by omega), k1.get a ha]
  · rw [dayOk, ridden, netOk, inR_t (by omega), decide_eq_true hel, allTo_iff.2 hok, tbOk, decide_eq_true (by omega), allTo_iff.2 (fun i hi => (ti i hi).1), allTo_iff.2 (fun i hi => (ti i hi).2.1), decide_eq_true hla, allTo_iff.2 (fun i hi => ?_)]
    · rfl
    · exact inR_t (hlb _ (by rw [getD_get _ _ hi]; exact List.getElem_mem hi))
end
end Go.Proofs.Ytjjglonmaajjoaa.AX
