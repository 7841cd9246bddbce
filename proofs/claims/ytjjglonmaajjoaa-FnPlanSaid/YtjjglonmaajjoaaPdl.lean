/- The program's day, played. No condition beyond each law's own; of the program: the functions' forms. -/
import Derived.Test.YtjjglonmaajjoaaPdi
namespace Go.Proofs.Ytjjglonmaajjoaa.AX
open Go
set_option maxRecDepth 10000
set_option maxHeartbeats 4000000
set_option linter.unusedSimpArgs false
set_option linter.unusedVariables false
section
variable {H0 H : Heap} {v w u z : Value} {n : Int} {es : List Ed} {l : List Tp} {la : List Int} {S : Sd} {P : Ps} {q a b c t i k : Nat} {m : Int} {lo : Nat → Int}
theorem rep_fl (n : Nat) (x : Value) : (List.replicate n [x]).flatten = List.replicate n x := by
  induction n with
  | zero => rfl
  | succ n ih => simp [List.replicate_succ, ih]
theorem fc_rep {α : Type} (f : α → List Value) (x : α) (n : Nat) : fcells f (List.replicate n x) = (List.replicate n (f x)).flatten := by
  induction n with
  | zero => rfl
  | succ n ih => rw [List.replicate_succ, fcells_cons, ih, List.replicate_succ, List.flatten_cons]
theorem r_newPlayer (d : Dy es l la) (he : (rSlc rEdge).rd H [v] es) (hr : (rSlc rTrip).rd H [w] l) (hu : (rSlc rInt).rd H [u] la) : Run Try.prog 89 [.agg #[.int .i64 n, v], w, u] H fun r' H' => ∃ q a b c t P, r' = ptr q 0 ∧ PH H H' n v w l.length es.length q a b c t P ∧ Jm es l la (-1) P := by
  have lw : ∀ H : Heap, vlen H w = some (.int .i64 l.length, H) := fun _ => slc_len hr
  have lv : ∀ H : Heap, vlen H v = some (.int .i64 es.length, H) := fun _ => slc_len he
  have l24 := d.d6
  have l60 := d.d7
  obtain ⟨csw, slw⟩ := slc_sl (sz := 2) (r := rTrip) rfl hr
  have nw := Sl.noTup_ slw
  have vw := Sl.cells_ slw
  refine Run.intro c89 rfl ?_
  simp (maxSteps := 4000000) (disch := omega) only [Zq, evO, vbox, wr, Zeq, if_true, if_false, Nat.reduceEqDiff, Nat.reduceAdd, Nat.reduceLeDiff, Nat.reduceSub, and_self, and_true, true_and, reduceIte, reduceCtorEq, eq_self, implies_true, forall_const, false_implies, imp_self, decide_true, decide_false, x89]
  generalize hG1 : H.push [.int .i64 n, v] = H1
  have k1 : Keep H H1 := by rw [← hG1]; exact Keep.push _ _
  have g1 : H1.get H.nxt = some (.own [.int .i64 n, v]) := by rw [← hG1, push_get', if_pos rfl]
  have n1 : H1.nxt = H.nxt + 1 := by rw [← hG1, Zbg]
  simp (maxSteps := 4000000) (disch := omega) only [ZD, Zio, Zip, pre_, beq_self_eq_true, Nat.reduceBEq, Zq, evO, vbox, wr, Zeq, if_true, if_false, Nat.reduceEqDiff, Nat.reduceAdd, Nat.reduceLeDiff, Nat.reduceSub, and_self, and_true, true_and, reduceIte, reduceCtorEq, eq_self, implies_true, forall_const, false_implies, imp_self, decide_true, decide_false, fix_nil, fix_cons, g1, G_dreg, lw, lv, nw, vw, rep_fl]
  first | with_reducible refine And.intro (by repeat' (first | apply And.intro | omega)) ?_ | skip
  generalize hG6 : ((((H1.push (List.replicate l.length (.int .i64 0))).push (List.replicate l.length (.int .i64 0))).push (List.replicate l.length (.int .i64 0))).push (List.replicate es.length (.bool false))).push [.int .i64 n, v, w, .slice (some ⟨H1.nxt, 0, none⟩) l.length 1, .slice (some ⟨H1.nxt + 1, 0, none⟩) l.length 1, .slice (some ⟨H1.nxt + 2, 0, none⟩) l.length 1, .slice (some ⟨H1.nxt + 3, 0, none⟩) es.length 1, .slice none 0 0, .int .i64 0] = H6
  have n6 : H6.nxt = H1.nxt + 5 := by rw [← hG6]; simp only [Zbg]
  have k6 : Keep H1 H6 := by rw [← hG6]; exact Keep.push' (Keep.push' (Keep.push' (Keep.push' (Keep.push' (Keep.refl _)))))
  have gq : H6.get (H1.nxt + 4) = some (.own (plC n v w l.length es.length H1.nxt (H1.nxt + 1) (H1.nxt + 2) (H1.nxt + 3) (.slice none 0 0) 0)) := by
    rw [← hG6, push_get', if_pos (by simp only [Zbg])]; rfl
  have gt : H6.get (H1.nxt + 3) = some (.own (fcells fB (List.replicate es.length false))) := by
    rw [← hG6, push_get', if_neg (by simp only [Zbg]; omega), push_get', if_pos (by simp only [Zbg]), fc_rep, fB, rep_fl]
  have gc : H6.get (H1.nxt + 2) = some (.own (fcells (fZ .i64) (List.replicate l.length 0))) := by
    rw [← hG6, push_get', if_neg (by simp only [Zbg]; omega), push_get', if_neg (by simp only [Zbg]; omega), push_get', if_pos (by simp only [Zbg]), fc_rep, fZ, rep_fl]
  have gb' : H6.get (H1.nxt + 1) = some (.own (fcells (fZ .i64) (List.replicate l.length 0))) := by
    rw [← hG6, push_get', if_neg (by simp only [Zbg]; omega), push_get', if_neg (by simp only [Zbg]; omega), push_get', if_neg (by simp only [Zbg]; omega), push_get', if_pos (by simp only [Zbg]), fc_rep, fZ, rep_fl]
  have ga : H6.get H1.nxt = some (.own (fcells (fZ .i64) (zs (List.replicate l.length 0)))) := by
    rw [← hG6, push_get', if_neg (by simp only [Zbg]; omega), push_get', if_neg (by simp only [Zbg]; omega), push_get', if_neg (by simp only [Zbg]; omega), push_get', if_neg (by simp only [Zbg]; omega), push_get', if_pos rfl, zs_rep, fc_rep, fZ, rep_fl]
  have ph6 : PH H H6 n v w l.length es.length (H1.nxt + 4) H1.nxt (H1.nxt + 1) (H1.nxt + 2) (H1.nxt + 3) ⟨List.replicate l.length 0, List.replicate l.length 0, List.replicate l.length 0, List.replicate es.length false, [], 0⟩ :=
    ⟨k1.trans k6, ⟨.slice none 0 0, [], gq, .inl ⟨rfl, rfl, rfl⟩, by simp, fun x hx => by cases hx⟩, ga, gb', gc, gt, by simp, by simp, by simp, by simp, by omega, by omega⟩
  obtain ⟨q, hqq⟩ : ∃ q, q = H1.nxt + 4 := ⟨_, rfl⟩
  rw [← hqq] at ph6 ⊢
  generalize H1.nxt + 1 = b at ph6
  generalize H1.nxt + 2 = c at ph6
  generalize H1.nxt + 3 = t at ph6
  generalize H1.nxt = a at ph6
  clear hG6 ga gb' gc gt gq k6 hqq
  refine G_forF [2, 7, 27, 28] (l.length) (fun i T H7 => T 29 = .int .i64 (i : Int) ∧ ∃ P, PH H H7 n v w l.length es.length q a b c t P ∧ P.pa = List.replicate l.length 0 ∧ P.pt = List.replicate es.length false ∧ P.ps = [] ∧ P.pw = 0 ∧ ∀ j, j < i → gi P.pr j = dp l j 0 + gi la j ∧ gi P.pe j = -1) 0 (Nat.zero_le _) ?_ ?_
  · simp (maxSteps := 4000000) (disch := omega) only [Zq, evO, vbox, wr, Zeq, if_true, if_false, Nat.reduceEqDiff, Nat.reduceAdd, Nat.reduceLeDiff, Nat.reduceSub, and_self, and_true, true_and, reduceIte, reduceCtorEq, eq_self, implies_true, forall_const, false_implies, imp_self, decide_true, decide_false, fix_nil, fix_cons, g1]
    exact ⟨_, ph6, rfl, rfl, rfl, rfl, fun j hj => by omega⟩
  rintro i T H7 hi hT ⟨t29, P, ph7, e1, e2, e3, e4, hp⟩
  simp only [fix_nil, fix_cons, Zq, evO, vbox, wr, Zeq, if_true, if_false, Nat.reduceEqDiff, Nat.reduceAdd, Nat.reduceLeDiff, Nat.reduceSub, and_self, and_true, true_and, reduceIte, reduceCtorEq, eq_self, implies_true, forall_const, false_implies, imp_self, decide_true, decide_false] at hT
  obtain ⟨t2, t7, t27, t28⟩ := hT
  by_cases hin : i < l.length
  rotate_left
  · obtain rfl : i = l.length := by omega
    simp (maxSteps := 4000000) (disch := omega) only [Zq, evO, vbox, wr, Zeq, if_true, if_false, Nat.reduceEqDiff, Nat.reduceAdd, Nat.reduceLeDiff, Nat.reduceSub, and_self, and_true, true_and, reduceIte, reduceCtorEq, eq_self, implies_true, forall_const, false_implies, imp_self, decide_true, decide_false, fix_nil, fix_cons, g1, t2, t7, t27, t28, t29]
    refine ⟨q, a, b, c, t, P, rfl, ph7, jm0 d ph7.la (fun i => ?_) ph7.lb (fun i hi => (hp i hi).1) ph7.lc (fun i hi => (hp i hi).2) ph7.lt (fun i => ?_) e3 e4⟩
    · rw [e1, gn, List.getD_eq_getElem?_getD, List.getElem?_replicate]; split <;> rfl
    · rw [e2, gb, List.getD_eq_getElem?_getD, List.getElem?_replicate]; split <;> rfl
  obtain ⟨R, F, g7, _⟩ := ph7.hq
  rw [plC] at g7
  obtain ⟨⟨q1, q2⟩, ⟨a1, a2⟩, ⟨b1, b2⟩, ⟨c1', c2'⟩, ⟨u1, u2⟩⟩ := ph7.hn
  obtain ⟨d1, d2, d3, d4, d5, d6, d7, d8, d9, d10⟩ := ph7.hd
  have ixb := fun H1 : Heap => ix1 (H1 := H1) (a := b) (k := .i64) hin
  have ixc := fun H1 : Heap => ix1 (H1 := H1) (a := c) (k := .i64) hin
  obtain ⟨wc, hc, fc⟩ := trip_elK hr hin
  have ixw := fun H0 : Heap => slc_idx (r := rTrip) (H1 := H0) (sz := 2) (i := i) (k := .i64) rfl hr hin
  have h12 := d.d1 i hin
  obtain ⟨cc, slc⟩ := slc_sl (sz := 3) (r := rCall) rfl hc
  have nc := Sl.noTup_ slc
  have vc := Sl.cells_ slc
  simp (maxSteps := 4000000) (disch := omega) only [Zq, evO, vbox, wr, Zeq, if_true, if_false, Nat.reduceEqDiff, Nat.reduceAdd, Nat.reduceLeDiff, Nat.reduceSub, and_self, and_true, true_and, reduceIte, reduceCtorEq, eq_self, implies_true, forall_const, false_implies, imp_self, decide_true, decide_false, fix_nil, fix_cons, g1, t2, t7, t27, t28, t29, g7, ixw, (fc H7 ph7.hk).1, nc, vc]
  generalize hG8 : (H7.push [.string ⟨#[]⟩, .slice none 0 0]).set H7.nxt [.string (tp l i).1, wc] = H8
  have k8 : Keep H7 H8 := by rw [← hG8]; repeat' (first | exact Keep.refl _ | assumption | refine Keep.push' ?_ | refine Keep.set' ?_ ?_ | refine Keep.moved' ?_ ?_ | omega)
  have g8 : H8.get H7.nxt = some (.own [.string (tp l i).1, wc]) := by rw [← hG8, Zbi, if_pos rfl]
  have n8 : H8.nxt = H7.nxt + 1 := by rw [← hG8, Zbh, Zbg]
  have ph8 := ph7.keep k8
  have g8q := (k8.get q q2).trans g7
  have hu8 := ints_of ((rSlc rInt).rdk hu ph8.hk)
  have ixu := fun H0 : Heap => IntsK.idx (k' := .i64) (H1 := H0) hu8 (by rw [d.d8]; exact hin)
  have eu := IntsK.ld hu8 (by rw [d.d8]; exact hin : i < la.length)
  rw [show la.getD i 0 = gi la i from rfl] at eu
  have ixp : ∀ H0 : Heap, vidx H0 3 wc (.int .i64 0) = some (adr wc 0 3 0, H0) := fun H0 => slc_idx (r := rCall) (H1 := H0) (sz := 3) (i := 0) (k := .i64) rfl hc (by omega)
  have fxp := fun (H0 : Heap) (o off : Nat) => slc_fad (r := rCall) (H1 := H0) (sz := 3) (i := 0) (o := o) (off := off) rfl hc (by omega)
  have x1 := (call_el (i := 0) ((rSlc rCall).rdk hc ph8.hk) (by omega)).2.2.2
  rw [show (cl (tp l i).2 0).2.2 = dp l i 0 from rfl] at x1
  have hd2 := d.d2 i 0 hin (by omega)
  have hd5 := d.d5 i hin
  have hw : IntKind.i64.wrap (dp l i 0 + gi la i) = dp l i 0 + gi la i := wrap64 (by omega) (by omega)
  obtain ⟨H9, e9, ph9, n9, get9⟩ := ph8.stR hin (dp l i 0 + gi la i)
  obtain ⟨H10, e10, ph10, n10, get10⟩ := ph9.stE hin (-1)
  refine G_tame rfl ?_
  simp (maxSteps := 4000000) (disch := omega) only [Zq, evO, vbox, wr, Zeq, if_true, if_false, Nat.reduceEqDiff, Nat.reduceAdd, Nat.reduceLeDiff, Nat.reduceSub, and_self, and_true, true_and, reduceIte, reduceCtorEq, eq_self, implies_true, forall_const, false_implies, imp_self, decide_true, decide_false, fix_nil, fix_cons, g1, t2, t7, t27, t28, t29, g7, g8, g8q, g8q, ixp, fxp, x1, ixu, eu, hw, ixb, ixc, e9, e10]
  refine ⟨hin, _, ph10, e1, e2, e3, e4, fun j hj => ?_⟩
  simp only []
  rw [gi_set (by rw [ph7.lb]; exact hin), gi_set (by rw [ph7.lc]; exact hin)]
  by_cases e : j = i
  · rw [if_pos e, if_pos e, e]; exact ⟨rfl, rfl⟩
  · rw [if_neg e, if_neg e]; exact hp j (by omega)
end
end Go.Proofs.Ytjjglonmaajjoaa.AX
