/- Ops one behind the other on a bare locking, of the reference. No condition beyond each law's own; of the program: the functions' forms. -/
import Derived.Test.YthjphddodooahaaPlp
namespace Go.Proofs.Ythjphddodooahaa.AX
open Go
set_option maxRecDepth 10000
set_option maxHeartbeats 4000000
set_option linter.unusedSimpArgs false
set_option linter.unusedVariables false
section
variable {C : CallRel} {ks : List Fr} {Q : XE → Tm → Heap → Prop} {T : Tm} {H : Heap}
/-- Ways that meet behind a block. -/
theorem kont_cutB {I : Tm → Heap → Prop} {rest : X} {id : Nat} (h2 : ∀ T' H', I T' H' → G C rest ks Q T' H') : ∀ (e : XE) (T : Tm) (H : Heap), kont C Q (.blk id :: .inv I :: ks) e T H → kont C Q (.blk id :: .seq rest :: ks) e T H := by
  intro e T H h
  cases e with
  | nrm => exact h2 _ _ h
  | ex i =>
    have h' : GX C (.ex i) (.blk id :: .inv I :: ks) Q T H := h
    show GX C (.ex i) (.blk id :: .seq rest :: ks) Q T H
    rw [Zap] at h' ⊢
    split
    · rename_i hi
      rw [if_pos hi] at h'
      exact h2 _ _ h'
    · rename_i hi
      rw [if_neg hi] at h'
      exact h'
  | rt => exact h
theorem G_cutB {a rest : X} {id : Nat} (I : Tm → Heap → Prop) (h1 : G C a (.blk id :: .inv I :: ks) Q T H) (h2 : ∀ T' H', I T' H' → G C rest ks Q T' H') : G C a (.blk id :: .seq rest :: ks) Q T H :=
  W.imp (fun _ _ _ _ _ h => h) a (kont_cutB h2) h1
theorem cK_cutB {v : Value} {a b rest : X} {id : Nat} (I : Tm → Heap → Prop) (h1 : cK C v a b (.blk id :: .inv I :: ks) Q T H) (h2 : ∀ T' H', I T' H' → G C rest ks Q T' H') : cK C v a b (.blk id :: .seq rest :: ks) Q T H := by
  cases v with
  | bool t =>
    cases t with
    | true => rw [Zah] at h1 ⊢; exact G_cutB I h1 h2
    | false => rw [Zai] at h1 ⊢; exact G_cutB I h1 h2
  | _ => exact h1.elim
end
theorem lk_small {under : List Int} {b : Int} {routes : List Rt} {L : Lo} (h : lkOk under b routes L.1 L.2.1 L.2.2 = true) : rLocking.tot L ≤ 100 := by
  obtain ⟨hpl, l1, l2, l3⟩ := lkOk_get h
  obtain ⟨b1, b2, u16, r12, _, _⟩ := plOk_get hpl
  obtain ⟨p, s, t⟩ := L
  rw [locking_tot, leaf_tot, leaf_tot, leaf_tot]
  simp only at l1 l2 l3
  omega
theorem r_spec_PlayLock {H : Heap} {vu vr w : Value} {under : List Int} {b : Int} {routes : List Rt} {ops : List (Int × Int)} (hu : (rSlc rInt).rd H [vu] under) (hr : (rSlc rRoute).rd H [vr] routes) (h3 : (rSlc rLockOp).rd H [w] ops) (tt : rPlant.tot (under, b, routes) ≤ 1048576) (hl : ops.length ≤ 1048576) :
    Run Try.prog 22 [.agg #[vu, .int .i64 b, vr], w] H fun r H' => Keep H H' ∧ ∃ cs F cs1 F1, r = .tuple #[rLocking.val cs, (rSlc rInt).val cs1] ∧ rLocking.own H' cs (pkR (under, b, routes) ops).1 F ∧ Fresh H H' F ∧ (rSlc rInt).own H' cs1 (pkR (under, b, routes) ops).2 F1 ∧ Fresh H H' F1 ∧ ∀ i ∈ F, i ∉ F1 := by
  have lw : ∀ H : Heap, vlen H w = some (.int .i64 ops.length, H) := fun _ => slc_len h3
  refine Run.intro c22 rfl ?_
  simp (maxSteps := 4000000) (disch := omega) only [Zq, evO, vbox, wr, Zeq, if_true, if_false, Nat.reduceEqDiff, Nat.reduceAdd, Nat.reduceLeDiff, Nat.reduceSub, and_self, and_true, true_and, reduceIte, reduceCtorEq, eq_self, implies_true, forall_const, false_implies, imp_self, decide_true, decide_false, x22]
  generalize hG0 : (H.push [vu, .int .i64 b, vr]).push [.slice none 0 0, .slice none 0 0, .slice none 0 0] = H0
  have k0 : Keep H H0 := by rw [← hG0]; repeat' (first | exact Keep.refl _ | assumption | refine Keep.push' ?_ | refine Keep.set' ?_ ?_ | refine Keep.moved' ?_ ?_ | omega)
  have g0 : H0.get H.nxt = some (.own [vu, .int .i64 b, vr]) := by rw [← hG0]; simp (maxSteps := 4000000) (disch := omega) only [Zq, evO, vbox, wr, Zeq, if_true, if_false, Nat.reduceEqDiff, Nat.reduceAdd, Nat.reduceLeDiff, Nat.reduceSub, and_self, and_true, true_and, reduceIte, reduceCtorEq, eq_self, implies_true, forall_const, false_implies, imp_self, decide_true, decide_false]
  have g0r : H0.get (H.nxt + 1) = some (.own [.slice none 0 0, .slice none 0 0, .slice none 0 0]) := by rw [← hG0]; simp (maxSteps := 4000000) (disch := omega) only [Zq, evO, vbox, wr, Zeq, if_true, if_false, Nat.reduceEqDiff, Nat.reduceAdd, Nat.reduceLeDiff, Nat.reduceSub, and_self, and_true, true_and, reduceIte, reduceCtorEq, eq_self, implies_true, forall_const, false_implies, imp_self, decide_true, decide_false]
  have n0 : H0.nxt = H.nxt + 2 := by rw [← hG0]; simp only [Zbg]
  clear hG0
  refine GO_call ((r_spec_PlantOk ((rSlc rInt).rdk hu k0) ((rSlc rRoute).rdk hr k0) tt).mono ?_)
  rintro _ H1 ⟨k1, rfl⟩
  have n1 := k1.nxt
  have g1 := (k1.get (H.nxt) (by omega)).trans g0
  have g1r := (k1.get (H.nxt + 1) (by omega)).trans g0r
  have k01 := k0.trans k1
  have bad : pkR (under, b, routes) ops = (([], [], []), []) → Keep H (H1.set (H.nxt + 1) [.slice none 0 0, .slice none 0 0, .slice none 0 0]) ∧ ∃ cs F cs1 F1, Value.tuple #[.agg #[.slice none 0 0, .slice none 0 0, .slice none 0 0], .slice none 0 0] = .tuple #[rLocking.val cs, (rSlc rInt).val cs1] ∧ rLocking.own (H1.set (H.nxt + 1) [.slice none 0 0, .slice none 0 0, .slice none 0 0]) cs (pkR (under, b, routes) ops).1 F ∧ Fresh H (H1.set (H.nxt + 1) [.slice none 0 0, .slice none 0 0, .slice none 0 0]) F ∧ (rSlc rInt).own (H1.set (H.nxt + 1) [.slice none 0 0, .slice none 0 0, .slice none 0 0]) cs1 (pkR (under, b, routes) ops).2 F1 ∧ Fresh H (H1.set (H.nxt + 1) [.slice none 0 0, .slice none 0 0, .slice none 0 0]) F1 ∧ ∀ i ∈ F, i ∉ F1 := fun hb => by
    rw [hb]
    exact ⟨k01.set' (by omega), _, _, [.slice none 0 0], [], rfl, bad_own _, ⟨by simp, by simp⟩, .inl ⟨rfl, rfl, rfl⟩, ⟨by simp, by simp⟩, by simp⟩
  by_cases hy : plOk under b routes = true
  rotate_left
  · have hy' : plOk under b routes = false := by simpa using hy
    have hfin := bad (by rw [pkR, if_neg (fun h => hy h.1)])
    simp (maxSteps := 4000000) (disch := omega) only [Zq, evO, vbox, wr, Zeq, if_true, if_false, Nat.reduceEqDiff, Nat.reduceAdd, Nat.reduceLeDiff, Nat.reduceSub, and_self, and_true, true_and, reduceIte, reduceCtorEq, eq_self, implies_true, forall_const, false_implies, imp_self, decide_true, decide_false, fix_nil, fix_cons, g0, g0r, g1, g1r, hy']
    exact hfin
  by_cases h300 : ops.length ≤ 300
  rotate_left
  · have hfin := bad (by rw [pkR, if_neg (fun h => h300 h.2)])
    simp (maxSteps := 4000000) (disch := omega) only [Zq, evO, vbox, wr, Zeq, if_true, if_false, Nat.reduceEqDiff, Nat.reduceAdd, Nat.reduceLeDiff, Nat.reduceSub, and_self, and_true, true_and, reduceIte, reduceCtorEq, eq_self, implies_true, forall_const, false_implies, imp_self, decide_true, decide_false, fix_nil, fix_cons, g0, g0r, g1, g1r, hy, lw]
    exact hfin
  clear bad
  have hpl : pkR (under, b, routes) ops = lkGo under b routes ops := by rw [pkR, if_pos ⟨hy, h300⟩]
  simp (maxSteps := 4000000) (disch := omega) only [Zq, evO, vbox, wr, Zeq, if_true, if_false, Nat.reduceEqDiff, Nat.reduceAdd, Nat.reduceLeDiff, Nat.reduceSub, and_self, and_true, true_and, reduceIte, reduceCtorEq, eq_self, implies_true, forall_const, false_implies, imp_self, decide_true, decide_false, fix_nil, fix_cons, g0, g0r, g1, g1r, hy, lw]
  refine GO_call ((r_spec_Bare ((rSlc rInt).rdk hu k01) ((rSlc rRoute).rdk hr k01) tt hy).mono ?_)
  rintro _ H2 ⟨k2, cs, F, rfl, o2, fr⟩
  obtain ⟨v1, w1, u1, rfl, _⟩ := locking_rd (x0 := (bareR under b routes).1) (x1 := (bareR under b routes).2.1) (x2 := (bareR under b routes).2.2) (rLocking.ownrd o2)
  have n2 := k2.nxt
  have g2 := (k2.get H.nxt (by omega)).trans g1
  have g2r := (k2.get (H.nxt + 1) (by omega)).trans g1r
  simp only [locking_val]
  simp (maxSteps := 4000000) (disch := omega) only [Zq, evO, vbox, wr, Zeq, if_true, if_false, Nat.reduceEqDiff, Nat.reduceAdd, Nat.reduceLeDiff, Nat.reduceSub, and_self, and_true, true_and, reduceIte, reduceCtorEq, eq_self, implies_true, forall_const, false_implies, imp_self, decide_true, decide_false, fix_nil, fix_cons, g0, g0r, g1, g1r, g2, g2r, lw]
  generalize hG4 : ((H2.push [.slice none 0 0, .slice none 0 0, .slice none 0 0]).set H2.nxt [v1, w1, u1]).push [] = H4
  have k4 : Keep H2 H4 := by rw [← hG4]; repeat' (first | exact Keep.refl _ | assumption | refine Keep.push' ?_ | refine Keep.set' ?_ ?_ | refine Keep.moved' ?_ ?_ | omega)
  have n4 : H4.nxt = H2.nxt + 2 := by rw [← hG4]; simp only [Zbg, Zbh]
  have g4 : H4.get H2.nxt = some (.own [v1, w1, u1]) := by rw [← hG4]; simp (maxSteps := 4000000) (disch := omega) only [Zq, evO, vbox, wr, Zeq, if_true, if_false, Nat.reduceEqDiff, Nat.reduceAdd, Nat.reduceLeDiff, Nat.reduceSub, and_self, and_true, true_and, reduceIte, reduceCtorEq, eq_self, implies_true, forall_const, false_implies, imp_self, decide_true, decide_false]
  have g4a := (k4.get H.nxt (by omega)).trans g2
  have g4r := (k4.get (H.nxt + 1) (by omega)).trans g2r
  have gn4 : H4.get (H2.nxt + 1) = some (.own []) := by rw [← hG4]; simp (maxSteps := 4000000) (disch := omega) only [Zq, evO, vbox, wr, Zeq, if_true, if_false, Nat.reduceEqDiff, Nat.reduceAdd, Nat.reduceLeDiff, Nat.reduceSub, and_self, and_true, true_and, reduceIte, reduceCtorEq, eq_self, implies_true, forall_const, false_implies, imp_self, decide_true, decide_false]
  have oc4 : (rSlc rInt).own H4 [.slice (some ⟨H2.nxt + 1, 0, none⟩) 0 1] [] [H2.nxt + 1] := leaf_own0 (xs := []) (p := H2.nxt + 1) (by omega) gn4
  have k14 := k2.trans k4
  have k04 := k01.trans k14
  have o4 := rLocking.ownKeep o2 k4
  have lt1 := rLocking.ownlt o2
  clear hG4 g0 g0r g1 g1r g2 g2r
  refine G_forF [1, 2, 4, 6] (ops.length) (fun i T H5 => T 8 = .int .i64 (i : Int) ∧ (H4.nxt ≤ H5.nxt ∧ ∀ a, a < H1.nxt → H5.get a = H4.get a) ∧ ∃ v5 w5 u5 F cv Fc, T 7 = cv ∧ H5.get H2.nxt = some (.own [v5, w5, u5]) ∧ rLocking.own H5 [v5, w5, u5] (lkGo under b routes (ops.take i)).1 F ∧ F.Nodup ∧ (∀ a ∈ F, H1.nxt ≤ a ∧ a ≠ H2.nxt ∧ a ∉ Fc) ∧ (rSlc rInt).own H5 [cv] (lkGo under b routes (ops.take i)).2 Fc ∧ Fc.Nodup ∧ ∀ a ∈ Fc, H1.nxt ≤ a ∧ a ≠ H2.nxt) 0 (Nat.zero_le _) ?_ ?_
  · simp (maxSteps := 4000000) (disch := omega) only [Zq, evO, vbox, wr, Zeq, if_true, if_false, Nat.reduceEqDiff, Nat.reduceAdd, Nat.reduceLeDiff, Nat.reduceSub, and_self, and_true, true_and, reduceIte, reduceCtorEq, eq_self, implies_true, forall_const, false_implies, imp_self, decide_true, decide_false, fix_nil, fix_cons, g4, g4a, g4r]
    exact ⟨v1, w1, u1, F, _, [H2.nxt + 1], rfl, rfl, o4, fr.1, fun a ha => ⟨(fr.2 a ha).1, by have := lt1 a ha; omega, by have := lt1 a ha; simp; omega⟩, oc4, by simp, fun a ha => by simp at ha; omega⟩
  rintro i T H5 hi hT ⟨t8, ⟨n5, kp5⟩, v5, w5, u5, F5, cv, Fc, t7, g5, o5, nd5, f5, oc5, ndc, fc⟩
  simp only [fix_nil, fix_cons, Zq, evO, vbox, wr, Zeq, if_true, if_false, Nat.reduceEqDiff, Nat.reduceAdd, Nat.reduceLeDiff, Nat.reduceSub, and_self, and_true, true_and, reduceIte, reduceCtorEq, eq_self, implies_true, forall_const, false_implies, imp_self, decide_true, decide_false] at hT
  obtain ⟨t1, t2, t4, t6⟩ := hT
  have k15 : Keep H1 H5 := ⟨by omega, fun a ha => by rw [kp5 a ha, k14.get a ha]⟩
  have k05 : Keep H H5 := k01.trans k15
  have g5a := (kp5 H.nxt (by omega)).trans g4a
  have g5r := (kp5 (H.nxt + 1) (by omega)).trans g4r
  obtain ⟨okI, lenC⟩ := lkGo_ok (ops := ops) hy i hi
  have totI : rLocking.tot (lkGo under b routes (ops.take i)).1 ≤ 1048576 := Nat.le_trans (lk_small okI) (by omega)
  obtain ⟨p0, p1, p2, e, r0, r1, r2⟩ := locking_rd (x0 := (lkGo under b routes (ops.take i)).1.1) (x1 := (lkGo under b routes (ops.take i)).1.2.1) (x2 := (lkGo under b routes (ops.take i)).1.2.2) (rLocking.ownrd o5)
  simp only [List.cons.injEq, and_true] at e
  obtain ⟨rfl, rfl, rfl⟩ := e
  have lc : ∀ H : Heap, vlen H cv = some (.int .i64 (lkGo under b routes (ops.take i)).2.length, H) := fun _ => slc_len ((rSlc rInt).ownrd oc5)
  have lt5 := rLocking.ownlt o5
  have ltc := (rSlc rInt).ownlt oc5
  by_cases hin : i < ops.length
  · have kx : Keep H5 ((H5.push [.slice none 0 0, .slice none 0 0, .slice none 0 0]).set H5.nxt [v5, w5, u5]) := by repeat' (first | exact Keep.refl _ | assumption | refine Keep.push' ?_ | refine Keep.set' ?_ ?_ | refine Keep.moved' ?_ ?_ | omega)
    have ixo := fun H0 : Heap => slc_idx (r := rLockOp) (H1 := H0) (sz := 2) (i := i) (k := .i64) rfl h3 hin
    have fxo := fun (H0 : Heap) (o off : Nat) => slc_fad (r := rLockOp) (H1 := H0) (sz := 2) (o := o) (off := off) rfl h3 hin
    have e1 := (op_el ((rSlc rLockOp).rdk h3 (k05.trans kx)) hin).2.1
    simp (maxSteps := 4000000) (disch := omega) only [Zq, evO, vbox, wr, Zeq, if_true, if_false, Nat.reduceEqDiff, Nat.reduceAdd, Nat.reduceLeDiff, Nat.reduceSub, and_self, and_true, true_and, reduceIte, reduceCtorEq, eq_self, implies_true, forall_const, false_implies, imp_self, decide_true, decide_false, fix_nil, fix_cons, g4, g4a, g4r, t1, t2, t4, t6, t8, t7, g5, g5a, g5r, lw, ixo, fxo, e1]
    clear e1 kx
    generalize hG6 : (H5.push [.slice none 0 0, .slice none 0 0, .slice none 0 0]).set H5.nxt [v5, w5, u5] = H6
    have k6 : Keep H5 H6 := by rw [← hG6]; repeat' (first | exact Keep.refl _ | assumption | refine Keep.push' ?_ | refine Keep.set' ?_ ?_ | refine Keep.moved' ?_ ?_ | omega)
    have g6 : H6.get H5.nxt = some (.own [v5, w5, u5]) := by rw [← hG6, Zbi, if_pos rfl]
    have n6 : H6.nxt = H5.nxt + 1 := by rw [← hG6, Zbh, Zbg]
    have g6a := (k6.get H.nxt (by omega)).trans g5a
    have g6r := (k6.get (H.nxt + 1) (by omega)).trans g5r
    have g6q := (k6.get H2.nxt (by omega)).trans g5
    have k16 := k15.trans k6
    have k06 := k01.trans k16
    have e2 := (op_el ((rSlc rLockOp).rdk h3 k06) hin).2.2
    clear hG6 g4 g4a g4r
    obtain ⟨L, hL⟩ : ∃ L, L = (lkGo under b routes (ops.take i)).1 := ⟨_, rfl⟩
    obtain ⟨R, hR⟩ : ∃ R, R = lkDo under b routes L ops[i] := ⟨_, rfl⟩
    rw [← hL] at o5 okI totI r0 r1 r2
    have s0 := (rSlc rInt).rdk r0 k6
    have s1 := (rSlc rBool).rdk r1 k6
    have s2 := (rSlc rBool).rdk r2 k6
    have c1 := t1
    have c2 := t2
    have c4 := t4
    have c6 := t6
    have c7 := t7
    have c8 := t8
    have meet : ∀ {H7 : Heap} {v7 w7 u7 : Value} {R1 : Lo} {F7 : List Nat}, Keep H6 H7 → rLocking.own H7 [v7, w7, u7] R1 F7 → Fresh H6 H7 F7 → Keep H5 (H7.set H5.nxt [v7, w7, u7]) ∧ H5.nxt < H7.nxt ∧ ∃ v6 w6 u6 F6, some (Obj.own [v7, w7, u7]) = some (Obj.own [v6, w6, u6]) ∧ rLocking.own (H7.set H5.nxt [v7, w7, u7]) [v6, w6, u6] R1 F6 ∧ F6.Nodup ∧ ∀ a ∈ F6, a ∈ F5 ∨ H5.nxt < a := by
      intro H7 v7 w7 u7 R1 F7 k7 o7 fr7
      have n7 := k7.nxt
      refine ⟨(k6.trans k7).set' (by omega), by omega, v7, w7, u7, F7, rfl, rLocking.ownk o7 (by rw [Zbh]; omega) (fun a ha => ?_), fr7.1, fun a ha => .inr ?_⟩
      · have := fr7.2 a ha
        rw [Zbi, if_neg (by omega)]
      · have := fr7.2 a ha
        omega
    refine cK_cutB (fun T' H' => T' 1 = w ∧ T' 2 = ptr H.nxt 0 ∧ T' 4 = ptr (H.nxt + 1) 0 ∧ T' 6 = ptr H2.nxt 0 ∧ T' 7 = cv ∧ T' 8 = .int .i64 (i : Int) ∧ T' 9 = .int .i64 R.2 ∧ T' 10 = ptr H5.nxt 0 ∧ Keep H5 H' ∧ H5.nxt < H'.nxt ∧ ∃ v6 w6 u6 F6, H'.get H5.nxt = some (.own [v6, w6, u6]) ∧ rLocking.own H' [v6, w6, u6] R.1 F6 ∧ F6.Nodup ∧ ∀ a ∈ F6, a ∈ F5 ∨ H5.nxt < a) ?_ ?_
    · by_cases d0 : ops[i].1 = 0
      · have hR' : R = rqR under b routes L ops[i].2 := by rw [hR, lkDo]; exact if_pos d0
        have e := opR_ok (opf := rqR) (p := (under, b, routes)) (L := (L.1, L.2.1, L.2.2)) (k := ops[i].2) okI
        simp (maxSteps := 4000000) (disch := omega) only [Zq, evO, vbox, wr, Zeq, if_true, if_false, Nat.reduceEqDiff, Nat.reduceAdd, Nat.reduceLeDiff, Nat.reduceSub, and_self, and_true, true_and, reduceIte, reduceCtorEq, eq_self, implies_true, forall_const, false_implies, imp_self, decide_true, decide_false, fix_nil, fix_cons, t1, t2, t4, t6, t8, t7, g5, g5a, g5r, g6, g6a, g6r, g6q, Zfl d0]
        refine G_tame rfl ?_
        simp (maxSteps := 4000000) (disch := omega) only [Zq, evO, vbox, wr, Zeq, if_true, if_false, Nat.reduceEqDiff, Nat.reduceAdd, Nat.reduceLeDiff, Nat.reduceSub, and_self, and_true, true_and, reduceIte, reduceCtorEq, eq_self, implies_true, forall_const, false_implies, imp_self, decide_true, decide_false, fix_nil, fix_cons, t1, t2, t4, t6, t8, t7, g5, g5a, g5r, g6, g6a, g6r, g6q, ixo, fxo, e2]
        refine GO_call_eq (by simp (maxSteps := 4000000) (disch := omega) only [Zq, evO, vbox, wr, Zeq, if_true, if_false, Nat.reduceEqDiff, Nat.reduceAdd, Nat.reduceLeDiff, Nat.reduceSub, and_self, and_true, true_and, reduceIte, reduceCtorEq, eq_self, implies_true, forall_const, false_implies, imp_self, decide_true, decide_false, fix_nil, fix_cons, t1, t2, t4, t6, t8, t7, g5, g5a, g5r, g6, g6a, g6r, g6q]) ((r_spec_Request (k := ops[i].2) ((rSlc rInt).rdk hu k06) ((rSlc rRoute).rdk hr k06) s0 s1 s2 tt totI).mono ?_)
        rintro _ H7 ⟨k7, cs7, F7, rfl, o7, fr7⟩
        rw [e] at o7 ⊢
        obtain ⟨v7, w7, u7, rfl, _⟩ := locking_rd (x0 := (rqR under b routes (L.1, L.2.1, L.2.2) ops[i].2).1.1) (x1 := (rqR under b routes (L.1, L.2.1, L.2.2) ops[i].2).1.2.1) (x2 := (rqR under b routes (L.1, L.2.1, L.2.2) ops[i].2).1.2.2) (rLocking.ownrd o7)
        have n7 := k7.nxt
        have g7 := (k7.get H5.nxt (by omega)).trans g6
        simp only [locking_val]
        simp (maxSteps := 4000000) (disch := omega) only [Zq, evO, vbox, wr, Zeq, if_true, if_false, Nat.reduceEqDiff, Nat.reduceAdd, Nat.reduceLeDiff, Nat.reduceSub, and_self, and_true, true_and, reduceIte, reduceCtorEq, eq_self, implies_true, forall_const, false_implies, imp_self, decide_true, decide_false, fix_nil, fix_cons, t1, t2, t4, t6, t8, t7, g5, g5a, g5r, g6, g6a, g6r, g6q, g7]
        rw [hR']
        exact ⟨rfl, meet k7 o7 fr7⟩
      by_cases d1 : ops[i].1 = 1
      · have hR' : R = occR under b routes L ops[i].2 := by rw [hR, lkDo]; rw [if_neg d0]; exact if_pos d1
        have e := opR_ok (opf := occR) (p := (under, b, routes)) (L := (L.1, L.2.1, L.2.2)) (k := ops[i].2) okI
        simp (maxSteps := 4000000) (disch := omega) only [Zq, evO, vbox, wr, Zeq, if_true, if_false, Nat.reduceEqDiff, Nat.reduceAdd, Nat.reduceLeDiff, Nat.reduceSub, and_self, and_true, true_and, reduceIte, reduceCtorEq, eq_self, implies_true, forall_const, false_implies, imp_self, decide_true, decide_false, fix_nil, fix_cons, t1, t2, t4, t6, t8, t7, g5, g5a, g5r, g6, g6a, g6r, g6q, Zfm d0, Zfl d1]
        refine G_tame rfl ?_
        simp (maxSteps := 4000000) (disch := omega) only [Zq, evO, vbox, wr, Zeq, if_true, if_false, Nat.reduceEqDiff, Nat.reduceAdd, Nat.reduceLeDiff, Nat.reduceSub, and_self, and_true, true_and, reduceIte, reduceCtorEq, eq_self, implies_true, forall_const, false_implies, imp_self, decide_true, decide_false, fix_nil, fix_cons, t1, t2, t4, t6, t8, t7, g5, g5a, g5r, g6, g6a, g6r, g6q, ixo, fxo, e2]
        refine GO_call_eq (by simp (maxSteps := 4000000) (disch := omega) only [Zq, evO, vbox, wr, Zeq, if_true, if_false, Nat.reduceEqDiff, Nat.reduceAdd, Nat.reduceLeDiff, Nat.reduceSub, and_self, and_true, true_and, reduceIte, reduceCtorEq, eq_self, implies_true, forall_const, false_implies, imp_self, decide_true, decide_false, fix_nil, fix_cons, t1, t2, t4, t6, t8, t7, g5, g5a, g5r, g6, g6a, g6r, g6q]) ((r_spec_Occupy (k := ops[i].2) ((rSlc rInt).rdk hu k06) ((rSlc rRoute).rdk hr k06) s0 s1 s2 tt totI).mono ?_)
        rintro _ H7 ⟨k7, cs7, F7, rfl, o7, fr7⟩
        rw [e] at o7 ⊢
        obtain ⟨v7, w7, u7, rfl, _⟩ := locking_rd (x0 := (occR under b routes (L.1, L.2.1, L.2.2) ops[i].2).1.1) (x1 := (occR under b routes (L.1, L.2.1, L.2.2) ops[i].2).1.2.1) (x2 := (occR under b routes (L.1, L.2.1, L.2.2) ops[i].2).1.2.2) (rLocking.ownrd o7)
        have n7 := k7.nxt
        have g7 := (k7.get H5.nxt (by omega)).trans g6
        simp only [locking_val]
        simp (maxSteps := 4000000) (disch := omega) only [Zq, evO, vbox, wr, Zeq, if_true, if_false, Nat.reduceEqDiff, Nat.reduceAdd, Nat.reduceLeDiff, Nat.reduceSub, and_self, and_true, true_and, reduceIte, reduceCtorEq, eq_self, implies_true, forall_const, false_implies, imp_self, decide_true, decide_false, fix_nil, fix_cons, t1, t2, t4, t6, t8, t7, g5, g5a, g5r, g6, g6a, g6r, g6q, g7]
        rw [hR']
        exact ⟨rfl, meet k7 o7 fr7⟩
      by_cases d2 : ops[i].1 = 2
      · have hR' : R = vaR under b routes L ops[i].2 := by rw [hR, lkDo]; rw [if_neg d0]; rw [if_neg d1]; exact if_pos d2
        have e := opR_ok (opf := vaR) (p := (under, b, routes)) (L := (L.1, L.2.1, L.2.2)) (k := ops[i].2) okI
        simp (maxSteps := 4000000) (disch := omega) only [Zq, evO, vbox, wr, Zeq, if_true, if_false, Nat.reduceEqDiff, Nat.reduceAdd, Nat.reduceLeDiff, Nat.reduceSub, and_self, and_true, true_and, reduceIte, reduceCtorEq, eq_self, implies_true, forall_const, false_implies, imp_self, decide_true, decide_false, fix_nil, fix_cons, t1, t2, t4, t6, t8, t7, g5, g5a, g5r, g6, g6a, g6r, g6q, Zfm d0, Zfm d1, Zfl d2]
        refine G_tame rfl ?_
        simp (maxSteps := 4000000) (disch := omega) only [Zq, evO, vbox, wr, Zeq, if_true, if_false, Nat.reduceEqDiff, Nat.reduceAdd, Nat.reduceLeDiff, Nat.reduceSub, and_self, and_true, true_and, reduceIte, reduceCtorEq, eq_self, implies_true, forall_const, false_implies, imp_self, decide_true, decide_false, fix_nil, fix_cons, t1, t2, t4, t6, t8, t7, g5, g5a, g5r, g6, g6a, g6r, g6q, ixo, fxo, e2]
        refine GO_call_eq (by simp (maxSteps := 4000000) (disch := omega) only [Zq, evO, vbox, wr, Zeq, if_true, if_false, Nat.reduceEqDiff, Nat.reduceAdd, Nat.reduceLeDiff, Nat.reduceSub, and_self, and_true, true_and, reduceIte, reduceCtorEq, eq_self, implies_true, forall_const, false_implies, imp_self, decide_true, decide_false, fix_nil, fix_cons, t1, t2, t4, t6, t8, t7, g5, g5a, g5r, g6, g6a, g6r, g6q]) ((r_spec_Vacate (k := ops[i].2) ((rSlc rInt).rdk hu k06) ((rSlc rRoute).rdk hr k06) s0 s1 s2 tt totI).mono ?_)
        rintro _ H7 ⟨k7, cs7, F7, rfl, o7, fr7⟩
        rw [e] at o7 ⊢
        obtain ⟨v7, w7, u7, rfl, _⟩ := locking_rd (x0 := (vaR under b routes (L.1, L.2.1, L.2.2) ops[i].2).1.1) (x1 := (vaR under b routes (L.1, L.2.1, L.2.2) ops[i].2).1.2.1) (x2 := (vaR under b routes (L.1, L.2.1, L.2.2) ops[i].2).1.2.2) (rLocking.ownrd o7)
        have n7 := k7.nxt
        have g7 := (k7.get H5.nxt (by omega)).trans g6
        simp only [locking_val]
        simp (maxSteps := 4000000) (disch := omega) only [Zq, evO, vbox, wr, Zeq, if_true, if_false, Nat.reduceEqDiff, Nat.reduceAdd, Nat.reduceLeDiff, Nat.reduceSub, and_self, and_true, true_and, reduceIte, reduceCtorEq, eq_self, implies_true, forall_const, false_implies, imp_self, decide_true, decide_false, fix_nil, fix_cons, t1, t2, t4, t6, t8, t7, g5, g5a, g5r, g6, g6a, g6r, g6q, g7]
        rw [hR']
        exact ⟨rfl, meet k7 o7 fr7⟩
      by_cases d3 : ops[i].1 = 3
      · have hR' : R = wiR under b routes L ops[i].2 := by rw [hR, lkDo]; rw [if_neg d0]; rw [if_neg d1]; rw [if_neg d2]; exact if_pos d3
        have e := opR_ok (opf := wiR) (p := (under, b, routes)) (L := (L.1, L.2.1, L.2.2)) (k := ops[i].2) okI
        simp (maxSteps := 4000000) (disch := omega) only [Zq, evO, vbox, wr, Zeq, if_true, if_false, Nat.reduceEqDiff, Nat.reduceAdd, Nat.reduceLeDiff, Nat.reduceSub, and_self, and_true, true_and, reduceIte, reduceCtorEq, eq_self, implies_true, forall_const, false_implies, imp_self, decide_true, decide_false, fix_nil, fix_cons, t1, t2, t4, t6, t8, t7, g5, g5a, g5r, g6, g6a, g6r, g6q, Zfm d0, Zfm d1, Zfm d2, Zfl d3]
        refine G_tame rfl ?_
        simp (maxSteps := 4000000) (disch := omega) only [Zq, evO, vbox, wr, Zeq, if_true, if_false, Nat.reduceEqDiff, Nat.reduceAdd, Nat.reduceLeDiff, Nat.reduceSub, and_self, and_true, true_and, reduceIte, reduceCtorEq, eq_self, implies_true, forall_const, false_implies, imp_self, decide_true, decide_false, fix_nil, fix_cons, t1, t2, t4, t6, t8, t7, g5, g5a, g5r, g6, g6a, g6r, g6q, ixo, fxo, e2]
        refine GO_call_eq (by simp (maxSteps := 4000000) (disch := omega) only [Zq, evO, vbox, wr, Zeq, if_true, if_false, Nat.reduceEqDiff, Nat.reduceAdd, Nat.reduceLeDiff, Nat.reduceSub, and_self, and_true, true_and, reduceIte, reduceCtorEq, eq_self, implies_true, forall_const, false_implies, imp_self, decide_true, decide_false, fix_nil, fix_cons, t1, t2, t4, t6, t8, t7, g5, g5a, g5r, g6, g6a, g6r, g6q]) ((r_spec_Withdraw (k := ops[i].2) ((rSlc rInt).rdk hu k06) ((rSlc rRoute).rdk hr k06) s0 s1 s2 tt totI).mono ?_)
        rintro _ H7 ⟨k7, cs7, F7, rfl, o7, fr7⟩
        rw [e] at o7 ⊢
        obtain ⟨v7, w7, u7, rfl, _⟩ := locking_rd (x0 := (wiR under b routes (L.1, L.2.1, L.2.2) ops[i].2).1.1) (x1 := (wiR under b routes (L.1, L.2.1, L.2.2) ops[i].2).1.2.1) (x2 := (wiR under b routes (L.1, L.2.1, L.2.2) ops[i].2).1.2.2) (rLocking.ownrd o7)
        have n7 := k7.nxt
        have g7 := (k7.get H5.nxt (by omega)).trans g6
        simp only [locking_val]
        simp (maxSteps := 4000000) (disch := omega) only [Zq, evO, vbox, wr, Zeq, if_true, if_false, Nat.reduceEqDiff, Nat.reduceAdd, Nat.reduceLeDiff, Nat.reduceSub, and_self, and_true, true_and, reduceIte, reduceCtorEq, eq_self, implies_true, forall_const, false_implies, imp_self, decide_true, decide_false, fix_nil, fix_cons, t1, t2, t4, t6, t8, t7, g5, g5a, g5r, g6, g6a, g6r, g6q, g7]
        rw [hR']
        exact ⟨rfl, meet k7 o7 fr7⟩
      have hR' : R = (L, 1) := by rw [hR, lkDo]; rw [if_neg d0, if_neg d1, if_neg d2, if_neg d3]
      simp (maxSteps := 4000000) (disch := omega) only [Zq, evO, vbox, wr, Zeq, if_true, if_false, Nat.reduceEqDiff, Nat.reduceAdd, Nat.reduceLeDiff, Nat.reduceSub, and_self, and_true, true_and, reduceIte, reduceCtorEq, eq_self, implies_true, forall_const, false_implies, imp_self, decide_true, decide_false, fix_nil, fix_cons, t1, t2, t4, t6, t8, t7, g5, g5a, g5r, g6, g6a, g6r, g6q, Zfm d0, Zfm d1, Zfm d2, Zfm d3]
      rw [hR']
      exact ⟨rfl, k6, by omega, v5, w5, u5, F5, rfl, rLocking.ownKeep o5 k6, nd5, fun a ha => .inl ha⟩
    rintro T2 H7 ⟨t1, t2, t4, t6, t7, t8, t9, t10, k57, n57, v6, w6, u6, F6, g7, o7, nd7, f7⟩
    have k07 := k05.trans k57
    have g7q := (k57.get H2.nxt (by omega)).trans g5
    obtain ⟨q0, q1, q2, e, z0, z1, z2⟩ := locking_rd (x0 := R.1.1) (x1 := R.1.2.1) (x2 := R.1.2.2) (rLocking.ownrd o7)
    simp only [List.cons.injEq, and_true] at e
    obtain ⟨rfl, rfl, rfl⟩ := e
    obtain ⟨va, vb⟩ := slc_cell z0
    obtain ⟨wa, wb⟩ := slc_cell z1
    obtain ⟨ua, ub⟩ := slc_cell z2
    have hsu := lkGo_succ (under := under) (b := b) (routes := routes) hin
    rw [lkStep, ← hL, ← hR] at hsu
    have lt7 := rLocking.ownlt o7
    have ocx : (rSlc rInt).own (H7.set H2.nxt [v6, w6, u6]) [cv] (lkGo under b routes (ops.take i)).2 Fc := (rSlc rInt).ownk oc5 (by simp only [Zbh]; omega) (fun a ha => by
      have := ltc a ha
      have := (fc a ha).2
      rw [Zbi, if_neg (by omega), k57.get a (by omega)])
    obtain ⟨u8, H8, F8, e8, o8, c8, f8, nd8, _⟩ := own_app (r := rInt) (bytes := 8) (sz := 1) rfl (by omega) ocx (row := [.int .i64 R.2]) (y := R.2) (G := []) ⟨rfl, rfl⟩ ndc (by simp) (by simp) (by omega)
    simp only [Zbh] at e8
    have n8 := c8.nxt
    simp only [Zbh] at n8
    have h8 : ∀ a, a < H7.nxt → a ∉ Fc → H8.get a = (H7.set H2.nxt [v6, w6, u6]).get a := fun a ha hn => c8.get a (by simp only [Zbh]; exact ha) hn
    have g8 : H8.get H2.nxt = some (.own [v6, w6, u6]) := by rw [h8 _ (by omega) (fun h => (fc _ h).2 rfl), Zbi, if_pos rfl]
    have nq : ∀ a ∈ F6, H1.nxt ≤ a ∧ a ≠ H2.nxt ∧ a ∉ Fc := fun a ha => by
      rcases f7 a ha with h | h
      · exact f5 a h
      · exact ⟨by omega, by omega, fun hc => by have := ltc a hc; omega⟩
    have o78 : rLocking.own H8 [v6, w6, u6] (lkGo under b routes (ops.take (i + 1))).1 F6 := by
      rw [hsu]
      refine rLocking.ownk o7 (by omega) (fun a ha => ?_)
      have h1 := nq a ha
      have h2 := lt7 a ha
      rw [h8 a h2 h1.2.2, Zbi, if_neg h1.2.1]
    have o8' : (rSlc rInt).own H8 [u8] (lkGo under b routes (ops.take (i + 1))).2 F8 := by rw [hsu]; exact o8
    simp (maxSteps := 4000000) (disch := omega) only [Zq, evO, vbox, wr, Zeq, if_true, if_false, Nat.reduceEqDiff, Nat.reduceAdd, Nat.reduceLeDiff, Nat.reduceSub, and_self, and_true, true_and, reduceIte, reduceCtorEq, eq_self, implies_true, forall_const, false_implies, imp_self, decide_true, decide_false, fix_nil, fix_cons, t1, t2, t4, t6, t8, t7, g5, g5a, g5r, g6, g6a, g6r, g6q, t9, t10, g7, g7q, g8, va, vb, wa, wb, ua, ub, Zff, e8]
    refine ⟨hin, ⟨by omega, fun a ha => ?_⟩, v6, w6, u6, F6, u8, F8, rfl, rfl, o78, nd7, fun a ha => ⟨(nq a ha).1, (nq a ha).2.1, fun h => ?_⟩, o8', nd8, fun a ha => ?_⟩
    · rw [h8 a (by omega) (fun h => by have := (fc a h).1; omega), Zbi, if_neg (by omega), k57.get a (by omega), kp5 a ha]
    · have h1 := lt7 a ha
      rcases f8 a h with h | h | h
      · exact (nq a ha).2.2 h
      · simp at h
      · simp only [Zbh] at h; omega
    · rcases f8 a ha with h | h | h
      · exact fc a h
      · simp at h
      · simp only [Zbh] at h; omega
  obtain rfl : i = ops.length := by omega
  rw [List.take_length] at o5 oc5
  obtain ⟨ca, cb⟩ := slc_cell ((rSlc rInt).ownrd oc5)
  simp (maxSteps := 4000000) (disch := omega) only [Zq, evO, vbox, wr, Zeq, if_true, if_false, Nat.reduceEqDiff, Nat.reduceAdd, Nat.reduceLeDiff, Nat.reduceSub, and_self, and_true, true_and, reduceIte, reduceCtorEq, eq_self, implies_true, forall_const, false_implies, imp_self, decide_true, decide_false, fix_nil, fix_cons, t1, t2, t4, t6, t8, t7, g5, g5a, g5r, lw, cb]
  rw [hpl]
  refine ⟨k05.set' (by omega), [v5, w5, u5], F5, [cv], Fc, rfl, ?_, ⟨nd5, fun a ha => ?_⟩, ?_, ⟨ndc, fun a ha => ?_⟩, fun a ha => (f5 a ha).2.2⟩
  · refine rLocking.ownk o5 (by rw [Zbh]; omega) (fun a ha => ?_)
    have := (f5 a ha).1
    rw [Zbi, if_neg (by omega)]
  · rw [Zbh]
    have := (f5 a ha).1
    have := lt5 a ha
    omega
  · refine (rSlc rInt).ownk oc5 (by rw [Zbh]; omega) (fun a ha => ?_)
    have := (fc a ha).1
    rw [Zbi, if_neg (by omega)]
  · rw [Zbh]
    have := (fc a ha).1
    have := ltc a ha
    omega
end Go.Proofs.Ythjphddodooahaa.AX
