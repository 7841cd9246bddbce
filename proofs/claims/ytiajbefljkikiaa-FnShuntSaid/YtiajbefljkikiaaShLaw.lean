/- Shunts of drawn sidings: the law's run. No condition; of the program: the functions' forms. -/
import Derived.Test.YtiajbefljkikiaaShw
import Derived.Test.YtiajbefljkikiaaYd8
namespace Go.Proofs.Ytiajbefljkikiaa.AX
open Go
set_option maxRecDepth 10000
set_option maxHeartbeats 4000000
set_option linter.unusedSimpArgs false
set_option linter.unusedVariables false
theorem plGo_at {room : List Int} {rows : List (List Int)} {ms : List Sh} {i : Nat} (hy : yardOk room rows = true) (hi : i < ms.length) : (plGo room rows ms).2.getD i 0 = (shR room (plGo room rows (ms.take i)).1 ms[i].1 ms[i].2.1 ms[i].2.2).2 := by
  have key : ∀ k, i + 1 + k ≤ ms.length → (plGo room rows (ms.take (i + 1 + k))).2.getD i 0 = (plGo room rows (ms.take (i + 1))).2.getD i 0 := by
    intro k
    induction k with
    | zero => intro _; rfl
    | succ k ih =>
      intro hk
      rw [show i + 1 + (k + 1) = (i + 1 + k) + 1 by omega, plGo_succ (by omega), plStep, List.getD_eq_getElem?_getD, List.getElem?_append_left (by have := (plGo_ok hy (ms := ms) (i + 1 + k) (by omega)).2.2; omega), ← List.getD_eq_getElem?_getD]
      exact ih (by omega)
  have h := key (ms.length - (i + 1)) (by omega)
  rw [show i + 1 + (ms.length - (i + 1)) = ms.length by omega, List.take_length] at h
  have hl := (plGo_ok hy (ms := ms) i (by omega)).2.2
  rw [h, plGo_succ hi, plStep, List.getD_eq_getElem?_getD, List.getElem?_append_right (by omega), hl, Nat.sub_self]
  rfl
theorem flat_take_le {rs : List (List Int)} (j : Nat) : (rs.take j).flatten.length ≤ rs.flatten.length := by
  have e : rs.flatten.length = (rs.take j).flatten.length + (rs.drop j).flatten.length := by
    rw [← List.length_append, ← List.flatten_append, List.take_append_drop]
  omega
theorem cntW_le (w : Int) : ∀ rs : List (List Int), cntW w rs ≤ rs.length
  | [] => Nat.le_refl _
  | r :: rs => by
    have := cntW_le w rs
    rw [cntW, List.length_cons]
    split <;> omega
theorem r_laws_FnShunt {H : Heap} {v0 : Value} {code : List Int} (h : Bts' H v0 code) (hc : ∀ x ∈ code, 0 ≤ x ∧ x ≤ 255) : Run Try.prog 7 [v0] H fun r _ => r = .bool true := by
  refine Run.intro c7 rfl ?_
  simp (maxSteps := 4000000) (disch := omega) only [Zq, evO, vbox, wr, Zeq, if_true, if_false, Nat.reduceEqDiff, Nat.reduceAdd, Nat.reduceLeDiff, Nat.reduceSub, and_self, and_true, true_and, reduceIte, reduceCtorEq, eq_self, implies_true, forall_const, false_implies, imp_self, decide_true, decide_false, x7]
  refine GO_call ((r_laws_big h).mono ?_)
  rintro _ H1 ⟨k1, rfl⟩
  by_cases hl : code.length ≤ 1048576
  rotate_left
  · simp (maxSteps := 4000000) (disch := omega) only [Zq, evO, vbox, wr, Zeq, if_true, if_false, Nat.reduceEqDiff, Nat.reduceAdd, Nat.reduceLeDiff, Nat.reduceSub, and_self, and_true, true_and, reduceIte, reduceCtorEq, eq_self, implies_true, forall_const, false_implies, imp_self, decide_true, decide_false, fix_nil, fix_cons]
  simp (maxSteps := 4000000) (disch := omega) only [Zq, evO, vbox, wr, Zeq, if_true, if_false, Nat.reduceEqDiff, Nat.reduceAdd, Nat.reduceLeDiff, Nat.reduceSub, and_self, and_true, true_and, reduceIte, reduceCtorEq, eq_self, implies_true, forall_const, false_implies, imp_self, decide_true, decide_false, fix_nil, fix_cons]
  refine GO_call ((r_spec_DrawRightSidings (IntsK.keep h k1) hl hc).mono ?_)
  rintro _ H2 ⟨k2, vu, vr, w, room, rows, ms, F2, rfl, o2, rm2, hok, hfl, hml⟩
  obtain ⟨_, _, e, ru2, rr2⟩ := sidings_rd (rSidings.ownrd o2)
  simp only [List.cons.injEq, and_true] at e
  obtain ⟨rfl, rfl⟩ := e
  have lt2 := rSidings.ownlt o2
  obtain ⟨l6, l1, lroom⟩ := yardOk_len hok
  have htE : ∀ rs : List (List Int), rs.length = rows.length → rs.flatten.length = rows.flatten.length → rSidings.tot (room, rs) ≤ 1048576 := fun rs h1 h2 => by rw [yard_totE]; omega
  have ht := htE rows rfl rfl
  obtain ⟨y1, y2⟩ := slc_cell ru2
  obtain ⟨x1, x2⟩ := slc_cell rr2
  have lr : ∀ H : Heap, vlen H vr = some (.int .i64 rows.length, H) := fun _ => slc_len rr2
  have lw : ∀ H : Heap, vlen H w = some (.int .i64 ms.length, H) := fun _ => slc_len rm2
  simp (maxSteps := 4000000) (disch := omega) only [Zq, evO, vbox, wr, Zeq, if_true, if_false, Nat.reduceEqDiff, Nat.reduceAdd, Nat.reduceLeDiff, Nat.reduceSub, and_self, and_true, true_and, reduceIte, reduceCtorEq, eq_self, implies_true, forall_const, false_implies, imp_self, decide_true, decide_false, fix_nil, fix_cons, y1, y2, x1, x2]
  generalize hG3 : (H2.push [.slice none 0 0, .slice none 0 0]).set H2.nxt [vu, vr] = H3
  have k3 : Keep H2 H3 := by rw [← hG3]; repeat' (first | exact Keep.refl _ | assumption | refine Keep.push' ?_ | refine Keep.set' ?_ ?_ | refine Keep.moved' ?_ ?_ | omega)
  have g3 : H3.get H2.nxt = some (.own [vu, vr]) := by rw [← hG3, Zbi, if_pos rfl]
  have n3 : H3.nxt = H2.nxt + 1 := by rw [← hG3, Zbh, Zbg]
  clear hG3
  refine GO_call ((r_impl_PlayShunts ((rSlc rInt).rdk ru2 k3) ((rSlc (rSlc rInt)).rdk rr2 k3) ((rSlc rShunt).rdk rm2 k3) ht (by omega)).mono ?_)
  rintro _ H4 ⟨k4, cs, F4, cs1, F4c, rfl, o4, f4, oc4, fc4, dj4⟩
  have n4 := k4.nxt
  have g4 := (k4.get (H2.nxt) (by omega)).trans g3
  have hpl : plR room rows ms = plGo room rows ms := by rw [plR, if_pos ⟨hok, by omega⟩]
  rw [hpl] at o4 oc4
  obtain ⟨lu, lv, rfl, rlu, rlv⟩ := sidings_rd (rSidings.ownrd o4)
  obtain ⟨cv, rfl⟩ := slc_one ((rSlc rInt).ownrd oc4)
  have hcv : (rSlc rInt).val [cv] = cv := rfl
  rw [sidings_val, hcv]
  have rc4 := (rSlc rInt).ownrd oc4
  have pk := plGo_ok (ms := ms) hok ms.length (Nat.le_refl _)
  rw [List.take_length] at pk
  have pp := plGo_perm room rows ms
  obtain ⟨last, hlast⟩ : ∃ last, last = (plGo room rows ms).1 := ⟨_, rfl⟩
  obtain ⟨codes, hcodes⟩ : ∃ codes, codes = (plGo room rows ms).2 := ⟨_, rfl⟩
  rw [← hlast] at rlv pk pp
  rw [← hcodes] at rc4 pk
  have hcl : (codes.length : Int) = ms.length := by have := pk.2.2; omega
  have hll : (last.length : Int) = rows.length := by have := pk.2.1; omega
  have hlfl : last.flatten.length = rows.flatten.length := pp.length_eq
  obtain ⟨a1, a2⟩ := slc_cell rlu
  obtain ⟨b1, b2⟩ := slc_cell rlv
  have llv : ∀ H : Heap, vlen H lv = some (.int .i64 last.length, H) := fun _ => slc_len rlv
  have lcv : ∀ H : Heap, vlen H cv = some (.int .i64 codes.length, H) := fun _ => slc_len rc4
  simp (maxSteps := 4000000) (disch := omega) only [Zq, evO, vbox, wr, Zeq, if_true, if_false, Nat.reduceEqDiff, Nat.reduceAdd, Nat.reduceLeDiff, Nat.reduceSub, and_self, and_true, true_and, reduceIte, reduceCtorEq, eq_self, implies_true, forall_const, false_implies, imp_self, decide_true, decide_false, fix_nil, fix_cons, g3, g4, y1, y2, x1, x2, a1, a2, b1, b2]
  generalize hG5 : (H4.push [.slice none 0 0, .slice none 0 0]).set H4.nxt [lu, lv] = H5
  have k5 : Keep H4 H5 := by rw [← hG5]; repeat' (first | exact Keep.refl _ | assumption | refine Keep.push' ?_ | refine Keep.set' ?_ ?_ | refine Keep.moved' ?_ ?_ | omega)
  have g5 : H5.get H4.nxt = some (.own [lu, lv]) := by rw [← hG5, Zbi, if_pos rfl]
  have n5 : H5.nxt = H4.nxt + 1 := by rw [← hG5, Zbh, Zbg]
  clear hG5
  have g5s := (k5.get H2.nxt (by omega)).trans g4
  have k25 := k3.trans (k4.trans k5)
  refine GO_call ((r_impl_SidingsOk ((rSlc rInt).rdk ru2 k25) ((rSlc (rSlc rInt)).rdk rr2 k25) ht).mono ?_)
  rintro _ H6 ⟨k6, rfl⟩
  have n6 := k6.nxt
  have g6s := (k6.get (H2.nxt) (by omega)).trans g5s
  have g6 := (k6.get (H4.nxt) (by omega)).trans g5
  have k26 := k25.trans k6
  simp (maxSteps := 4000000) (disch := omega) only [Zq, evO, vbox, wr, Zeq, if_true, if_false, Nat.reduceEqDiff, Nat.reduceAdd, Nat.reduceLeDiff, Nat.reduceSub, and_self, and_true, true_and, reduceIte, reduceCtorEq, eq_self, implies_true, forall_const, false_implies, imp_self, decide_true, decide_false, fix_nil, fix_cons, g3, g4, g5, g5s, g6s, g6, hok, lr, lw, llv, lcv, Zfl hcl, Zfl hll, y1, y2, x1, x2]
  generalize hG7 : (H6.push [.slice none 0 0, .slice none 0 0]).set H6.nxt [vu, vr] = H7
  have k7 : Keep H6 H7 := by rw [← hG7]; repeat' (first | exact Keep.refl _ | assumption | refine Keep.push' ?_ | refine Keep.set' ?_ ?_ | refine Keep.moved' ?_ ?_ | omega)
  have g7 : H7.get H6.nxt = some (.own [vu, vr]) := by rw [← hG7, Zbi, if_pos rfl]
  have n7 : H7.nxt = H6.nxt + 1 := by rw [← hG7, Zbh, Zbg]
  clear hG7
  obtain ⟨q, hq⟩ : ∃ q, q = H6.nxt := ⟨_, rfl⟩
  rw [← hq] at g7 ⊢
  have hg7 := g7
  clear g7
  refine G_forF [3, 4, 5, 6, 7] (ms.length) (fun i T H8 => T 8 = .int .i64 (i : Int) ∧ Keep H6 H8 ∧ q < H8.nxt ∧ ∃ nu nr F, H8.get q = some (.own [nu, nr]) ∧ rSidings.own H8 [nu, nr] (room, (plGo room rows (ms.take i)).1) F ∧ q ∉ F) 0 (Nat.zero_le _) ?_ ?_
  · simp (maxSteps := 4000000) (disch := omega) only [Zq, evO, vbox, wr, Zeq, if_true, if_false, Nat.reduceEqDiff, Nat.reduceAdd, Nat.reduceLeDiff, Nat.reduceSub, and_self, and_true, true_and, reduceIte, reduceCtorEq, eq_self, implies_true, forall_const, false_implies, imp_self, decide_true, decide_false, fix_nil, fix_cons, g3, g4, g5, g5s, g6s, g6]
    exact ⟨k7, by omega, vu, vr, F2, hg7, rSidings.ownKeep o2 (k26.trans k7), fun hm => by have := lt2 q hm; have := k26.nxt; omega⟩
  rintro i T H8 hi hT ⟨t8, k8, hq8, nu, nr, F8, g8, o8, hqF⟩
  simp only [fix_nil, fix_cons, Zq, evO, vbox, wr, Zeq, if_true, if_false, Nat.reduceEqDiff, Nat.reduceAdd, Nat.reduceLeDiff, Nat.reduceSub, and_self, and_true, true_and, reduceIte, reduceCtorEq, eq_self, implies_true, forall_const, false_implies, imp_self, decide_true, decide_false] at hT
  obtain ⟨t3, t4, t5, t6, t7⟩ := hT
  have n8 := k8.nxt
  have g8s := (k8.get H2.nxt (by omega)).trans g6s
  have g8l := (k8.get H4.nxt (by omega)).trans g6
  obtain ⟨_, _, e, rnu, rnr⟩ := sidings_rd (rSidings.ownrd o8)
  simp only [List.cons.injEq, and_true] at e
  obtain ⟨rfl, rfl⟩ := e
  obtain ⟨hoki, hli, _⟩ := plGo_ok (ms := ms) hok i hi
  have hpi := (plGo_perm room rows (ms.take i)).length_eq
  have hti := htE _ hli hpi
  by_cases hin : i < ms.length
  · obtain ⟨rows1, hr1⟩ : ∃ rows1, rows1 = (plGo room rows (ms.take i)).1 := ⟨_, rfl⟩
    have hsu := plGo_succ (room := room) (rows := rows) hin
    rw [← hr1] at o8 rnr hoki hli hpi hti
    have rm8 := (rSlc rShunt).rdk rm2 (k26.trans k8)
    have ixm := fun H0 : Heap => slc_idx (r := rShunt) (H1 := H0) (sz := 3) (i := i) (k := .i64) rfl rm2 hin
    have em := shunt_el rm8 hin
    have txm := fun (ix o : Nat) => slc_trL (r := rShunt) (sz := 3) (i := i) (ix := ix) (o := o) rfl rm2 hin
    have bw := slc_blk rm8 hin
    obtain ⟨z1, z2⟩ := slc_cell rnu
    obtain ⟨u1, u2⟩ := slc_cell rnr
    have hcode : codes.getD i 0 = (shR room rows1 ms[i].1 ms[i].2.1 ms[i].2.2).2 := by rw [hcodes, hr1]; exact plGo_at hok hin
    have hs1 : s1R room rows1 ms[i].1 ms[i].2.1 ms[i].2.2 = shR room rows1 ms[i].1 ms[i].2.1 ms[i].2.2 := by rw [s1R, if_pos hoki]
    obtain ⟨f, hf⟩ : ∃ f, f = ms[i].1 := ⟨_, rfl⟩
    obtain ⟨t, htt⟩ : ∃ t, t = ms[i].2.1 := ⟨_, rfl⟩
    obtain ⟨m, hm⟩ : ∃ m, m = ms[i].2.2 := ⟨_, rfl⟩
    rw [← hf, ← htt, ← hm] at hcode hs1 em
    have hsu2 : (plGo room rows (ms.take (i + 1))).1 = (shR room rows1 f t m).1 := by rw [hsu, plStep, hr1, hf, htt, hm]
    simp (maxSteps := 4000000) (disch := omega) only [Zq, evO, vbox, wr, Zeq, if_true, if_false, Nat.reduceEqDiff, Nat.reduceAdd, Nat.reduceLeDiff, Nat.reduceSub, and_self, and_true, true_and, reduceIte, reduceCtorEq, eq_self, implies_true, forall_const, false_implies, imp_self, decide_true, decide_false, fix_nil, fix_cons, g3, g4, g5, g5s, g6s, g6, t3, t4, t5, t6, t7, t8, g8, g8s, g8l, lw, Zfh (by omega : (i : Int) < ms.length)]
    simp (maxSteps := 4000000) (disch := omega) only [ZD, Zio, Zip, pre_, beq_self_eq_true, Nat.reduceBEq, Zq, evO, vbox, wr, Zeq, if_true, if_false, Nat.reduceEqDiff, Nat.reduceAdd, Nat.reduceLeDiff, Nat.reduceSub, and_self, and_true, true_and, reduceIte, reduceCtorEq, eq_self, implies_true, forall_const, false_implies, imp_self, decide_true, decide_false, fix_nil, fix_cons, g3, g4, g5, g5s, g6s, g6, t3, t4, t5, t6, t7, t8, g8, g8s, g8l, G_dreg, g8, z1, z2, u1, u2, ixm, em]
    refine GD_call ((r_impl_ShuntOne (f := f) (t := t) (m := m) rnu rnr hti).mono ?_)
    rintro _ H9 ⟨k9, cs9, F9, rfl, o9, f9⟩
    rw [hs1] at o9 ⊢
    obtain ⟨xu, xr, rfl, rxu, rxr⟩ := sidings_rd (rSidings.ownrd o9)
    have n9 := k9.nxt
    have g9 := (k9.get q hq8).trans g8
    obtain ⟨rows2, hr2⟩ : ∃ rows2, rows2 = (shR room rows1 f t m).1 := ⟨_, rfl⟩
    rw [← hr2] at o9 rxr hsu2
    obtain ⟨x, hx⟩ : ∃ x, x = (shR room rows1 f t m).2 := ⟨_, rfl⟩
    rw [← hx] at hcode ⊢
    obtain ⟨c1, c2⟩ := slc_cell rxu
    obtain ⟨d1, d2⟩ := slc_cell rxr
    simp only [sidings_val]
    simp (maxSteps := 4000000) (disch := omega) only [ZD, Zio, Zip, pre_, beq_self_eq_true, Nat.reduceBEq, Zq, evO, vbox, wr, Zeq, if_true, if_false, Nat.reduceEqDiff, Nat.reduceAdd, Nat.reduceLeDiff, Nat.reduceSub, and_self, and_true, true_and, reduceIte, reduceCtorEq, eq_self, implies_true, forall_const, false_implies, imp_self, decide_true, decide_false, fix_nil, fix_cons, g3, g4, g5, g5s, g6s, g6, t3, t4, t5, t6, t7, t8, g8, g8s, g8l, g9, g8, z1, z2, u1, u2, ixm, em, c1, c2, d1, d2, txm]
    generalize hGA : (H9.push [.slice none 0 0, .slice none 0 0]).set H9.nxt [xu, xr] = HA
    have kA : Keep H9 HA := by rw [← hGA]; repeat' (first | exact Keep.refl _ | assumption | refine Keep.push' ?_ | refine Keep.set' ?_ ?_ | refine Keep.moved' ?_ ?_ | omega)
    have gA : HA.get H9.nxt = some (.own [xu, xr]) := by rw [← hGA, Zbi, if_pos rfl]
    have nA : HA.nxt = H9.nxt + 1 := by rw [← hGA, Zbh, Zbg]
    have hgA := gA
    clear gA hGA
    first | with_reducible refine And.intro (by repeat' (first | apply And.intro | omega | exact k9.get _ (by omega))) ?_ | skip
    have g9' := (kA.get q (by omega)).trans g9
    have hic : i < codes.length := by omega
    have k6A := k8.trans (k9.trans kA)
    have jc := (ints_of rc4).keep (k5.trans (k6.trans k6A))
    have rxu1 := (rSlc rInt).rdk rxu kA
    have rxr1 := (rSlc (rSlc rInt)).rdk rxr kA
    have hok2 : yardOk room rows2 = true := by rw [hr2]; exact shR_ok hoki
    have hl2 : rows2.length = rows.length := by rw [hr2, shR_len]; exact hli
    have hp2 : rows2.flatten.length = rows.flatten.length := by rw [hr2, (shR_perm room rows1 f t m).length_eq]; exact hpi
    have ht2 := htE _ hl2 hp2
    have nA' : H9.nxt < HA.nxt := by omega
    simp (maxSteps := 4000000) (disch := omega) only [Zq, evO, vbox, wr, Zeq, if_true, if_false, Nat.reduceEqDiff, Nat.reduceAdd, Nat.reduceLeDiff, Nat.reduceSub, and_self, and_true, true_and, reduceIte, reduceCtorEq, eq_self, implies_true, forall_const, false_implies, imp_self, decide_true, decide_false, fix_nil, fix_cons, g3, g4, g5, g5s, g6s, g6, t3, t4, t5, t6, t7, t8, g8, g8s, g8l, g9, jc.idx hic, jc.ld hic, hcode, Zfl (rfl : x = x), hgA, c1, c2, d1, d2]
    refine GO_call ((r_impl_SidingsOk rxu1 rxr1 ht2).mono ?_)
    rintro _ HB ⟨kB, rfl⟩
    have nB := kB.nxt
    have gB := (kB.get q (by omega)).trans g9'
    have hgB := (kB.get H9.nxt (by omega)).trans hgA
    have k6B := k6A.trans kB
    have kAB := k9.trans (kA.trans kB)
    have fin : ∀ H' : Heap, Keep HB H' → Keep H6 (H'.set q [xu, xr]) ∧ q < H'.nxt ∧ ∃ nu nr F, some (Obj.own [xu, xr]) = some (Obj.own [nu, nr]) ∧ rSidings.own (H'.set q [xu, xr]) [nu, nr] (room, (plGo room rows (ms.take (i + 1))).1) F ∧ q ∉ F := fun H' kk => by
      have nk := kk.nxt
      have f9q : q ∉ F9 := fun hm => by have := (f9.2 q hm).1; omega
      refine ⟨⟨by rw [Zbh]; exact (k6B.trans kk).nxt, fun a ha => ?_⟩, by omega, xu, xr, F9, rfl, ?_, f9q⟩
      · rw [Zbi, if_neg (by omega)]; exact (k6B.trans kk).get a ha
      · rw [hsu2]
        exact rSidings.ownk (rSidings.ownKeep o9 (kA.trans (kB.trans kk))) (by rw [Zbh]; exact Nat.le_refl _) (fun a ha => by rw [Zbi, if_neg (fun e : a = q => f9q (e ▸ ha))])
    have rnu1 := (rSlc rInt).rdk rnu kAB
    have rnr1 := (rSlc (rSlc rInt)).rdk rnr kAB
    have rxu2 := (rSlc rInt).rdk rxu1 kB
    have rxr2 := (rSlc (rSlc rInt)).rdk rxr1 kB
    simp (maxSteps := 4000000) (disch := omega) only [Zq, evO, vbox, wr, Zeq, if_true, if_false, Nat.reduceEqDiff, Nat.reduceAdd, Nat.reduceLeDiff, Nat.reduceSub, and_self, and_true, true_and, reduceIte, reduceCtorEq, eq_self, implies_true, forall_const, false_implies, imp_self, decide_true, decide_false, fix_nil, fix_cons, g3, g4, g5, g5s, g6s, g6, t3, t4, t5, t6, t7, t8, g8, g8s, g8l, g9, hok2]
    by_cases hx0 : x = 0
    rotate_left
    · have he : rows2 = rows1 := by rw [hr2]; exact shR_same (by rw [← hx]; exact hx0)
      simp (maxSteps := 4000000) (disch := omega) only [Zq, evO, vbox, wr, Zeq, if_true, if_false, Nat.reduceEqDiff, Nat.reduceAdd, Nat.reduceLeDiff, Nat.reduceSub, and_self, and_true, true_and, reduceIte, reduceCtorEq, eq_self, implies_true, forall_const, false_implies, imp_self, decide_true, decide_false, fix_nil, fix_cons, g3, g4, g5, g5s, g6s, g6, t3, t4, t5, t6, t7, t8, g8, g8s, g8l, g9, Zfm hx0, hgB, gB, c1, c2, d1, d2, z1, z2, u1, u2]
      refine GO_call ((r_laws_sameYard rxu2 rxr2 rnu1 rnr1 ht2 (by omega)).mono ?_)
      rintro _ HC ⟨kC, rfl⟩
      have nC := kC.nxt
      have gC := (kC.get q (by omega)).trans gB
      have hgC := (kC.get H9.nxt (by omega)).trans hgB
      simp (maxSteps := 4000000) (disch := omega) only [Zq, evO, vbox, wr, Zeq, if_true, if_false, Nat.reduceEqDiff, Nat.reduceAdd, Nat.reduceLeDiff, Nat.reduceSub, and_self, and_true, true_and, reduceIte, reduceCtorEq, eq_self, implies_true, forall_const, false_implies, imp_self, decide_true, decide_false, fix_nil, fix_cons, g3, g4, g5, g5s, g6s, g6, t3, t4, t5, t6, t7, t8, g8, g8s, g8l, g9, dec_eq_tt he, hgC, gC, c1, c2, d1, d2]
      exact ⟨hin, fin HC kC⟩
    subst hx0
    obtain ⟨un1, un2⟩ := shR_undo hoki hx.symm
    rw [← hr2] at un1 un2
    have s1b : s1R room rows2 t f m = (rows1, 0) := by rw [s1R, if_pos hok2]; exact un1
    have rmB := (rSlc rShunt).rdk rm8 kAB
    have emB := shunt_el rmB hin
    rw [← hf, ← htt, ← hm] at emB
    simp (maxSteps := 4000000) (disch := omega) only [Zq, evO, vbox, wr, Zeq, if_true, if_false, Nat.reduceEqDiff, Nat.reduceAdd, Nat.reduceLeDiff, Nat.reduceSub, and_self, and_true, true_and, reduceIte, reduceCtorEq, eq_self, implies_true, forall_const, false_implies, imp_self, decide_true, decide_false, fix_nil, fix_cons, g3, g4, g5, g5s, g6s, g6, t3, t4, t5, t6, t7, t8, g8, g8s, g8l, g9]
    simp (maxSteps := 4000000) (disch := omega) only [ZD, Zio, Zip, pre_, beq_self_eq_true, Nat.reduceBEq, Zq, evO, vbox, wr, Zeq, if_true, if_false, Nat.reduceEqDiff, Nat.reduceAdd, Nat.reduceLeDiff, Nat.reduceSub, and_self, and_true, true_and, reduceIte, reduceCtorEq, eq_self, implies_true, forall_const, false_implies, imp_self, decide_true, decide_false, fix_nil, fix_cons, g3, g4, g5, g5s, g6s, g6, t3, t4, t5, t6, t7, t8, g8, g8s, g8l, g9, G_dreg, hgB, c1, c2, d1, d2, ixm, emB]
    refine GD_call ((r_impl_Undo f t m).mono ?_)
    rintro _ HC ⟨kC, rfl⟩
    simp (maxSteps := 4000000) (disch := omega) only [ZD, Zio, Zip, pre_, beq_self_eq_true, Nat.reduceBEq, Zq, evO, vbox, wr, Zeq, if_true, if_false, Nat.reduceEqDiff, Nat.reduceAdd, Nat.reduceLeDiff, Nat.reduceSub, and_self, and_true, true_and, reduceIte, reduceCtorEq, eq_self, implies_true, forall_const, false_implies, imp_self, decide_true, decide_false, fix_nil, fix_cons, g3, g4, g5, g5s, g6s, g6, t3, t4, t5, t6, t7, t8, g8, g8s, g8l, g9]
    refine GD_call ((r_impl_ShuntOne (f := t) (t := f) (m := m) ((rSlc rInt).rdk rxu2 kC) ((rSlc (rSlc rInt)).rdk rxr2 kC) ht2).mono ?_)
    rintro _ HD ⟨kD, csD, FD, rfl, oD, fD⟩
    rw [s1b] at oD ⊢
    obtain ⟨bu, br, rfl, rbu, rbr⟩ := sidings_rd (rSidings.ownrd oD)
    have nC := kC.nxt
    have nD := kD.nxt
    obtain ⟨e1, e2⟩ := slc_cell rbu
    obtain ⟨f1, f2⟩ := slc_cell rbr
    simp only [sidings_val]
    simp (maxSteps := 4000000) (disch := omega) only [ZD, Zio, Zip, pre_, beq_self_eq_true, Nat.reduceBEq, Zq, evO, vbox, wr, Zeq, if_true, if_false, Nat.reduceEqDiff, Nat.reduceAdd, Nat.reduceLeDiff, Nat.reduceSub, and_self, and_true, true_and, reduceIte, reduceCtorEq, eq_self, implies_true, forall_const, false_implies, imp_self, decide_true, decide_false, fix_nil, fix_cons, g3, g4, g5, g5s, g6s, g6, t3, t4, t5, t6, t7, t8, g8, g8s, g8l, g9, e1, e2, f1, f2, txm]
    generalize hGE : (HD.push [.slice none 0 0, .slice none 0 0]).set HD.nxt [bu, br] = HE
    have kE : Keep HD HE := by rw [← hGE]; repeat' (first | exact Keep.refl _ | assumption | refine Keep.push' ?_ | refine Keep.set' ?_ ?_ | refine Keep.moved' ?_ ?_ | omega)
    have gE : HE.get HD.nxt = some (.own [bu, br]) := by rw [← hGE, Zbi, if_pos rfl]
    have nE : HE.nxt = HD.nxt + 1 := by rw [← hGE, Zbh, Zbg]
    have hgE := gE
    clear gE hGE
    first | with_reducible refine And.intro (by repeat' (first | apply And.intro | omega | exact kC.get _ (by omega) | exact kD.get _ (by omega))) ?_ | skip
    have kBE := kC.trans (kD.trans kE)
    have gE := (kBE.get q (by omega)).trans gB
    have hgE9 := (kBE.get H9.nxt (by omega)).trans hgB
    have gDq := ((kC.trans kD).get q (by omega)).trans gB
    simp (maxSteps := 4000000) (disch := omega) only [Zq, evO, vbox, wr, Zeq, if_true, if_false, Nat.reduceEqDiff, Nat.reduceAdd, Nat.reduceLeDiff, Nat.reduceSub, and_self, and_true, true_and, reduceIte, reduceCtorEq, eq_self, implies_true, forall_const, false_implies, imp_self, decide_true, decide_false, fix_nil, fix_cons, g3, g4, g5, g5s, g6s, g6, t3, t4, t5, t6, t7, t8, g8, g8s, g8l, g9, gDq, z1, z2, u1, u2]
    refine GO_call ((r_laws_sameYard ((rSlc rInt).rdk rbu kE) ((rSlc (rSlc rInt)).rdk rbr kE) ((rSlc rInt).rdk rnu1 kBE) ((rSlc (rSlc rInt)).rdk rnr1 kBE) hti rfl).mono ?_)
    rintro _ HF ⟨kF, rfl⟩
    have nF := kF.nxt
    have gF := (kF.get q (by omega)).trans gE
    have hgF9 := (kF.get H9.nxt (by omega)).trans hgE9
    have kBF := kBE.trans kF
    simp (maxSteps := 4000000) (disch := omega) only [Zq, evO, vbox, wr, Zeq, if_true, if_false, Nat.reduceEqDiff, Nat.reduceAdd, Nat.reduceLeDiff, Nat.reduceSub, and_self, and_true, true_and, reduceIte, reduceCtorEq, eq_self, implies_true, forall_const, false_implies, imp_self, decide_true, decide_false, fix_nil, fix_cons, g3, g4, g5, g5s, g6s, g6, t3, t4, t5, t6, t7, t8, g8, g8s, g8l, g9, dec_eq_tt (rfl : rows1 = rows1), hgF9, gF, c1, c2, d1, d2, z1, z2, u1, u2]
    refine GO_call ((r_laws_sameYard ((rSlc rInt).rdk rxu2 kBF) ((rSlc (rSlc rInt)).rdk rxr2 kBF) ((rSlc rInt).rdk rnu1 kBF) ((rSlc (rSlc rInt)).rdk rnr1 kBF) ht2 (by omega)).mono ?_)
    rintro _ HG ⟨kG, rfl⟩
    have nG := kG.nxt
    have gG := (kG.get q (by omega)).trans gF
    have hgG9 := (kG.get H9.nxt (by omega)).trans hgF9
    simp (maxSteps := 4000000) (disch := omega) only [Zq, evO, vbox, wr, Zeq, if_true, if_false, Nat.reduceEqDiff, Nat.reduceAdd, Nat.reduceLeDiff, Nat.reduceSub, and_self, and_true, true_and, reduceIte, reduceCtorEq, eq_self, implies_true, forall_const, false_implies, imp_self, decide_true, decide_false, fix_nil, fix_cons, g3, g4, g5, g5s, g6s, g6, t3, t4, t5, t6, t7, t8, g8, g8s, g8l, g9, dec_eq_ff un2, hgG9, gG, c1, c2, d1, d2]
    exact ⟨hin, fin HG (kBF.trans kG)⟩
  obtain rfl : i = ms.length := by omega
  rw [List.take_length, ← hlast] at o8 rnr hoki hli hpi hti
  obtain ⟨z1, z2⟩ := slc_cell rnu
  obtain ⟨u1, u2⟩ := slc_cell rnr
  have kp4 := k5.trans (k6.trans k8)
  have kp2 := k26.trans k8
  simp (maxSteps := 4000000) (disch := omega) only [Zq, evO, vbox, wr, Zeq, if_true, if_false, Nat.reduceEqDiff, Nat.reduceAdd, Nat.reduceLeDiff, Nat.reduceSub, and_self, and_true, true_and, reduceIte, reduceCtorEq, eq_self, implies_true, forall_const, false_implies, imp_self, decide_true, decide_false, fix_nil, fix_cons, g3, g4, g5, g5s, g6s, g6, t3, t4, t5, t6, t7, t8, g8, g8s, g8l, lw]
  refine G_forF [3, 4, 5, 7] (rows.length) (fun i T H9 => T 14 = .int .i64 (i : Int) ∧ Keep H8 H9 ∧ ∃ z : Int, T 13 = .int .i64 z ∧ z = ((rows.take i).flatten.length : Int) - (last.take i).flatten.length) 0 (Nat.zero_le _) ?_ ?_
  · simp (maxSteps := 4000000) (disch := omega) only [Zq, evO, vbox, wr, Zeq, if_true, if_false, Nat.reduceEqDiff, Nat.reduceAdd, Nat.reduceLeDiff, Nat.reduceSub, and_self, and_true, true_and, reduceIte, reduceCtorEq, eq_self, implies_true, forall_const, false_implies, imp_self, decide_true, decide_false, fix_nil, fix_cons, g3, g4, g5, g5s, g6s, g6, t3, t4, t5, t6, t7, t8, g8, g8s, g8l]
    exact ⟨Keep.refl _, 0, rfl, by simp⟩
  rintro i T H9 hi hT ⟨t14, k9, z, t13, hz⟩
  simp only [fix_nil, fix_cons, Zq, evO, vbox, wr, Zeq, if_true, if_false, Nat.reduceEqDiff, Nat.reduceAdd, Nat.reduceLeDiff, Nat.reduceSub, and_self, and_true, true_and, reduceIte, reduceCtorEq, eq_self, implies_true, forall_const, false_implies, imp_self, decide_true, decide_false, t3, t4, t5, t6, t7, t8] at hT
  obtain ⟨t3, t4, t5, t7⟩ := hT
  have n9 := k9.nxt
  have g9s := (k9.get H2.nxt (by omega)).trans g8s
  have g9l := (k9.get H4.nxt (by omega)).trans g8l
  by_cases hin : i < rows.length
  · have hin2 : i < last.length := by omega
    have ixr := fun H0 : Heap => slc_idx (r := rSlc rInt) (H1 := H0) (sz := 1) (i := i) (k := .i64) rfl rr2 hin
    have ixl := fun H0 : Heap => slc_idx (r := rSlc rInt) (H1 := H0) (sz := 1) (i := i) (k := .i64) rfl rlv hin2
    obtain ⟨rv, ldr, hrv⟩ := yrow_get rr2 hin
    obtain ⟨lv', ldl, hlv⟩ := yrow_get rlv hin2
    have e1 := ldr H9 (kp2.trans k9)
    have e2 := ldl H9 (kp4.trans k9)
    have fr := flat_take hin
    have fl := flat_take hin2
    have fr1 := flat_take_le (rs := rows) i
    have fr2 := flat_take_le (rs := rows) (i + 1)
    have fl1 := flat_take_le (rs := last) i
    have fl2 := flat_take_le (rs := last) (i + 1)
    have gr : rows.getD i [] = rows[i] := getD_get rows [] hin
    have gl : last.getD i [] = last[i] := getD_get last [] hin2
    have hw1 : IntKind.i64.wrap (z + ((rows.getD i []).length : Int)) = z + ((rows.getD i []).length : Int) := by rw [gr]; exact wrap64 (by omega) (by omega)
    have hw2 : IntKind.i64.wrap (z + ((rows.getD i []).length : Int) - ((last.getD i []).length : Int)) = z + ((rows.getD i []).length : Int) - ((last.getD i []).length : Int) := by rw [gr, gl]; exact wrap64 (by omega) (by omega)
    simp (maxSteps := 4000000) (disch := omega) only [Zq, evO, vbox, wr, Zeq, if_true, if_false, Nat.reduceEqDiff, Nat.reduceAdd, Nat.reduceLeDiff, Nat.reduceSub, and_self, and_true, true_and, reduceIte, reduceCtorEq, eq_self, implies_true, forall_const, false_implies, imp_self, decide_true, decide_false, fix_nil, fix_cons, g3, g4, g5, g5s, g6s, g6, t3, t4, t5, t6, t7, t8, g8, g8s, g8l, t14, t13, g9s, g9l, lr]
    refine G_calm rfl ?_
    simp (maxSteps := 4000000) (disch := omega) only [Zq, evO, vbox, wr, Zeq, if_true, if_false, Nat.reduceEqDiff, Nat.reduceAdd, Nat.reduceLeDiff, Nat.reduceSub, and_self, and_true, true_and, reduceIte, reduceCtorEq, eq_self, implies_true, forall_const, false_implies, imp_self, decide_true, decide_false, fix_nil, fix_cons, g3, g4, g5, g5s, g6s, g6, t3, t4, t5, t6, t7, t8, g8, g8s, g8l, t14, t13, g9s, g9l, ixr, ixl, e1, e2, hrv.len_, hlv.len_, hw1, hw2]
    have hk36 : (rows.getD i []).length ≤ 36 := by rw [gr]; omega
    refine G_forF [3, 4, 5, 7, 13, 14] ((rows.getD i []).length) (fun k T HA => T 15 = .int .i64 (k : Int) ∧ Keep H9 HA) 0 (Nat.zero_le _) ?_ ?_
    · simp (maxSteps := 4000000) (disch := omega) only [Zq, evO, vbox, wr, Zeq, if_true, if_false, Nat.reduceEqDiff, Nat.reduceAdd, Nat.reduceLeDiff, Nat.reduceSub, and_self, and_true, true_and, reduceIte, reduceCtorEq, eq_self, implies_true, forall_const, false_implies, imp_self, decide_true, decide_false, fix_nil, fix_cons, g3, g4, g5, g5s, g6s, g6, t3, t4, t5, t6, t7, t8, g8, g8s, g8l, t14, t13, g9s, g9l]
      exact Keep.refl _
    rintro k T HA hk hT ⟨t15, kA⟩
    simp only [fix_nil, fix_cons, Zq, evO, vbox, wr, Zeq, if_true, if_false, Nat.reduceEqDiff, Nat.reduceAdd, Nat.reduceLeDiff, Nat.reduceSub, and_self, and_true, true_and, reduceIte, reduceCtorEq, eq_self, implies_true, forall_const, false_implies, imp_self, decide_true, decide_false, t3, t4, t5, t6, t7, t8, t14, t13] at hT
    obtain ⟨t3, t4, t5, t7, t13, t14⟩ := hT
    have nA := kA.nxt
    have gAs := (kA.get H2.nxt (by omega)).trans g9s
    have gAl := (kA.get H4.nxt (by omega)).trans g9l
    have eA1 := ldr HA (kp2.trans (k9.trans kA))
    by_cases hkn : k < (rows.getD i []).length
    · have jr := hrv.keep (kp2.trans (k9.trans kA))
      have hwm : (rows.getD i []).getD k 0 ∈ last.flatten := by
        refine pp.mem_iff.2 (List.mem_flatten.2 ⟨rows[i], List.getElem_mem hin, ?_⟩)
        rw [gr, getD_get _ 0 (by rw [← gr]; exact hkn)]
        exact List.getElem_mem _
      have hone := cntW_one (pp.nodup_iff.2 (yardOk_iff.1 hok).2.2.2.2) hwm
      generalize hwg : (rows.getD i []).getD k 0 = wg at *
      simp (maxSteps := 4000000) (disch := omega) only [Zq, evO, vbox, wr, Zeq, if_true, if_false, Nat.reduceEqDiff, Nat.reduceAdd, Nat.reduceLeDiff, Nat.reduceSub, and_self, and_true, true_and, reduceIte, reduceCtorEq, eq_self, implies_true, forall_const, false_implies, imp_self, decide_true, decide_false, fix_nil, fix_cons, g3, g4, g5, g5s, g6s, g6, t3, t4, t5, t6, t7, t8, g8, g8s, g8l, t14, t13, g9s, g9l, t15, gAs, ixr, eA1, hrv.len_]
      refine G_forF [3, 4, 5, 7, 13, 14, 15] (last.length) (fun j T HB => T 17 = .int .i64 (j : Int) ∧ Keep HA HB ∧ T 16 = .int .i64 (cntW wg (last.take j) : Int)) 0 (Nat.zero_le _) ?_ ?_
      · simp (maxSteps := 4000000) (disch := omega) only [Zq, evO, vbox, wr, Zeq, if_true, if_false, Nat.reduceEqDiff, Nat.reduceAdd, Nat.reduceLeDiff, Nat.reduceSub, and_self, and_true, true_and, reduceIte, reduceCtorEq, eq_self, implies_true, forall_const, false_implies, imp_self, decide_true, decide_false, fix_nil, fix_cons, g3, g4, g5, g5s, g6s, g6, t3, t4, t5, t6, t7, t8, g8, g8s, g8l, t14, t13, g9s, g9l, t15]
        exact ⟨Keep.refl _, rfl⟩
      rintro j T HB hj hT ⟨t17, kB, t16⟩
      simp only [fix_nil, fix_cons, Zq, evO, vbox, wr, Zeq, if_true, if_false, Nat.reduceEqDiff, Nat.reduceAdd, Nat.reduceLeDiff, Nat.reduceSub, and_self, and_true, true_and, reduceIte, reduceCtorEq, eq_self, implies_true, forall_const, false_implies, imp_self, decide_true, decide_false, t3, t4, t5, t6, t7, t8, t14, t13, t15] at hT
      obtain ⟨t3, t4, t5, t7, t13, t14, t15⟩ := hT
      have nB := kB.nxt
      have gBs := (kB.get H2.nxt (by omega)).trans gAs
      have gBl := (kB.get H4.nxt (by omega)).trans gAl
      by_cases hjn : j < last.length
      · obtain ⟨mv, ldm, hmv⟩ := yrow_get rlv hjn
        have ixm := fun H0 : Heap => slc_idx (r := rSlc rInt) (H1 := H0) (sz := 1) (i := j) (k := .i64) rfl rlv hjn
        have e3 := ldm HB (kp4.trans (k9.trans (kA.trans kB)))
        have e4 := ldr HB (kp2.trans (k9.trans (kA.trans kB)))
        have jb := jr.keep kB
        have jm := hmv.keep (kp4.trans (k9.trans (kA.trans kB)))
        have fm := flat_take hjn
        have fm1 := flat_take_le (rs := last) (j + 1)
        have hmj : (last.getD j []).length ≤ 1048576 := by rw [getD_get last [] hjn]; omega
        have ctk := cntW_take (w := wg) hjn
        simp (maxSteps := 4000000) (disch := omega) only [Zq, evO, vbox, wr, Zeq, if_true, if_false, Nat.reduceEqDiff, Nat.reduceAdd, Nat.reduceLeDiff, Nat.reduceSub, and_self, and_true, true_and, reduceIte, reduceCtorEq, eq_self, implies_true, forall_const, false_implies, imp_self, decide_true, decide_false, fix_nil, fix_cons, g3, g4, g5, g5s, g6s, g6, t3, t4, t5, t6, t7, t8, g8, g8s, g8l, t14, t13, g9s, g9l, t15, t17, t16, gBl, llv]
        refine G_tame rfl ?_
        simp (maxSteps := 4000000) (disch := omega) only [Zq, evO, vbox, wr, Zeq, if_true, if_false, Nat.reduceEqDiff, Nat.reduceAdd, Nat.reduceLeDiff, Nat.reduceSub, and_self, and_true, true_and, reduceIte, reduceCtorEq, eq_self, implies_true, forall_const, false_implies, imp_self, decide_true, decide_false, fix_nil, fix_cons, g3, g4, g5, g5s, g6s, g6, t3, t4, t5, t6, t7, t8, g8, g8s, g8l, t14, t13, g9s, g9l, t15, t17, t16, gBs, gBl, ixm, e3, ixr, e4, jb.idx hkn, jb.ld hkn, hwg]
        refine GO_call ((r_laws_within (x := wg) (of_ints jm) hmj).mono ?_)
        rintro _ HC ⟨kC, rfl⟩
        have nC := kC.nxt
        have gj : last.getD j [] = last[j] := getD_get last [] hjn
        rw [gj]
        have cle : cntW wg (last.take j) ≤ 100 := by
          have := cntW_le wg (last.take j)
          rw [List.length_take] at this
          omega
        by_cases hcn : last[j].contains wg = true
        · rw [if_pos hcn] at ctk
          simp (maxSteps := 4000000) (disch := omega) only [Zq, evO, vbox, wr, Zeq, if_true, if_false, Nat.reduceEqDiff, Nat.reduceAdd, Nat.reduceLeDiff, Nat.reduceSub, and_self, and_true, true_and, reduceIte, reduceCtorEq, eq_self, implies_true, forall_const, false_implies, imp_self, decide_true, decide_false, fix_nil, fix_cons, g3, g4, g5, g5s, g6s, g6, t3, t4, t5, t6, t7, t8, g8, g8s, g8l, t14, t13, g9s, g9l, t15, t17, t16, hcn, Zfn (i := cntW wg (last.take j)) (by omega)]
          exact ⟨hjn, kB.trans kC, by rw [ctk]⟩
        · rw [if_neg hcn] at ctk
          have hcn' : last[j].contains wg = false := by simpa using hcn
          simp (maxSteps := 4000000) (disch := omega) only [Zq, evO, vbox, wr, Zeq, if_true, if_false, Nat.reduceEqDiff, Nat.reduceAdd, Nat.reduceLeDiff, Nat.reduceSub, and_self, and_true, true_and, reduceIte, reduceCtorEq, eq_self, implies_true, forall_const, false_implies, imp_self, decide_true, decide_false, fix_nil, fix_cons, g3, g4, g5, g5s, g6s, g6, t3, t4, t5, t6, t7, t8, g8, g8s, g8l, t14, t13, g9s, g9l, t15, t17, t16, hcn']
          exact ⟨hjn, kB.trans kC, by rw [ctk]; rfl⟩
      obtain rfl : j = last.length := by omega
      rw [List.take_length, hone] at t16
      simp (maxSteps := 4000000) (disch := omega) only [Zq, evO, vbox, wr, Zeq, if_true, if_false, Nat.reduceEqDiff, Nat.reduceAdd, Nat.reduceLeDiff, Nat.reduceSub, and_self, and_true, true_and, reduceIte, reduceCtorEq, eq_self, implies_true, forall_const, false_implies, imp_self, decide_true, decide_false, fix_nil, fix_cons, g3, g4, g5, g5s, g6s, g6, t3, t4, t5, t6, t7, t8, g8, g8s, g8l, t14, t13, g9s, g9l, t15, t17, t16, gBl, llv]
      exact ⟨hkn, kA.trans kB⟩
    obtain rfl : k = (rows.getD i []).length := by omega
    simp (maxSteps := 4000000) (disch := omega) only [Zq, evO, vbox, wr, Zeq, if_true, if_false, Nat.reduceEqDiff, Nat.reduceAdd, Nat.reduceLeDiff, Nat.reduceSub, and_self, and_true, true_and, reduceIte, reduceCtorEq, eq_self, implies_true, forall_const, false_implies, imp_self, decide_true, decide_false, fix_nil, fix_cons, g3, g4, g5, g5s, g6s, g6, t3, t4, t5, t6, t7, t8, g8, g8s, g8l, t14, t13, g9s, g9l, t15, gAs, ixr, eA1, hrv.len_]
    refine ⟨hin, k9.trans kA, _, rfl, ?_⟩
    rw [hz, fr, fl, gr, gl]
    omega
  obtain rfl : i = rows.length := by omega
  rw [List.take_length, List.take_of_length_le (by omega), hlfl, Int.sub_self] at hz
  subst hz
  have nu1 := (rSlc rInt).rdk rnu k9
  have nr1 := (rSlc (rSlc rInt)).rdk rnr k9
  have g9q := (k9.get q hq8).trans g8
  have kp29 := kp2.trans k9
  have kp49 := kp4.trans k9
  simp (maxSteps := 4000000) (disch := omega) only [Zq, evO, vbox, wr, Zeq, if_true, if_false, Nat.reduceEqDiff, Nat.reduceAdd, Nat.reduceLeDiff, Nat.reduceSub, and_self, and_true, true_and, reduceIte, reduceCtorEq, eq_self, implies_true, forall_const, false_implies, imp_self, decide_true, decide_false, fix_nil, fix_cons, g3, g4, g5, g5s, g6s, g6, t3, t4, t5, t6, t7, t8, g8, g8s, g8l, t14, t13, g9s, g9l, g9q, lr, y1, y2, x1, x2]
  refine GO_call ((r_spec_PlayShunts ((rSlc rInt).rdk ru2 kp29) ((rSlc (rSlc rInt)).rdk rr2 kp29) ((rSlc rShunt).rdk rm2 kp29) ht (by omega)).mono ?_)
  rintro _ HA ⟨kA, csA, FA, cs1A, FAc, rfl, oA, fA, ocA, fcA, djA⟩
  have nA := kA.nxt
  rw [hpl, ← hlast] at oA
  obtain ⟨wu, wx, rfl, rwu, rwx⟩ := sidings_rd (rSidings.ownrd oA)
  obtain ⟨cvA, rfl⟩ := slc_one ((rSlc rInt).ownrd ocA)
  rw [sidings_val]
  obtain ⟨a3, a4⟩ := slc_cell rwu
  obtain ⟨b3, b4⟩ := slc_cell rwx
  have gAq := (kA.get q (by omega)).trans g9q
  have gAl := (kA.get H4.nxt (by omega)).trans g9l
  simp (maxSteps := 4000000) (disch := omega) only [Zq, evO, vbox, wr, Zeq, if_true, if_false, Nat.reduceEqDiff, Nat.reduceAdd, Nat.reduceLeDiff, Nat.reduceSub, and_self, and_true, true_and, reduceIte, reduceCtorEq, eq_self, implies_true, forall_const, false_implies, imp_self, decide_true, decide_false, fix_nil, fix_cons, g3, g4, g5, g5s, g6s, g6, t3, t4, t5, t6, t7, t8, g8, g8s, g8l, t14, t13, g9s, g9l, g9q, gAq, gAl, a1, a2, a3, a4, b1, b2, b3, b4, z1, z2, u1, u2]
  generalize hGB : (HA.push [.slice none 0 0, .slice none 0 0]).set HA.nxt [wu, wx] = HB
  have kB : Keep HA HB := by rw [← hGB]; repeat' (first | exact Keep.refl _ | assumption | refine Keep.push' ?_ | refine Keep.set' ?_ ?_ | refine Keep.moved' ?_ ?_ | omega)
  have gB : HB.get HA.nxt = some (.own [wu, wx]) := by rw [← hGB, Zbi, if_pos rfl]
  have nB : HB.nxt = HA.nxt + 1 := by rw [← hGB, Zbh, Zbg]
  have hgB := gB
  clear gB hGB
  have kAB := kA.trans kB
  have gBq := (kAB.get q (by omega)).trans g9q
  have gBl := (kAB.get H4.nxt (by omega)).trans g9l
  refine GO_call ((r_laws_sameYard ((rSlc rInt).rdk nu1 kAB) ((rSlc (rSlc rInt)).rdk nr1 kAB) ((rSlc rInt).rdk rlu (kp49.trans kAB)) ((rSlc (rSlc rInt)).rdk rlv (kp49.trans kAB)) hti rfl).mono ?_)
  rintro _ HC ⟨kC, rfl⟩
  have nC := kC.nxt
  have hgC := (kC.get HA.nxt (by omega)).trans hgB
  have gCl := (kC.get H4.nxt (by omega)).trans gBl
  simp (maxSteps := 4000000) (disch := omega) only [Zq, evO, vbox, wr, Zeq, if_true, if_false, Nat.reduceEqDiff, Nat.reduceAdd, Nat.reduceLeDiff, Nat.reduceSub, and_self, and_true, true_and, reduceIte, reduceCtorEq, eq_self, implies_true, forall_const, false_implies, imp_self, decide_true, decide_false, fix_nil, fix_cons, g3, g4, g5, g5s, g6s, g6, t3, t4, t5, t6, t7, t8, g8, g8s, g8l, t14, t13, g9s, g9l, g9q, dec_eq_tt (rfl : last = last), hgC, gCl, a1, a2, a3, a4, b1, b2, b3, b4]
  refine GO_call ((r_laws_sameYard ((rSlc rInt).rdk rwu (kB.trans kC)) ((rSlc (rSlc rInt)).rdk rwx (kB.trans kC)) ((rSlc rInt).rdk rlu (kp49.trans (kAB.trans kC))) ((rSlc (rSlc rInt)).rdk rlv (kp49.trans (kAB.trans kC))) hti rfl).mono ?_)
  rintro _ HD ⟨kD, rfl⟩
  have nD := kD.nxt
  simp (maxSteps := 4000000) (disch := omega) only [Zq, evO, vbox, wr, Zeq, if_true, if_false, Nat.reduceEqDiff, Nat.reduceAdd, Nat.reduceLeDiff, Nat.reduceSub, and_self, and_true, true_and, reduceIte, reduceCtorEq, eq_self, implies_true, forall_const, false_implies, imp_self, decide_true, decide_false, fix_nil, fix_cons, g3, g4, g5, g5s, g6s, g6, t3, t4, t5, t6, t7, t8, g8, g8s, g8l, t14, t13, g9s, g9l, g9q, dec_eq_tt (rfl : last = last)]
theorem go_laws_FnShunt (H : Heap) (xs : List Value) (h : GoodArgs Try.prog H Try.f7.params.toList xs) : ∃ H', CR Try.prog 7 xs H (.bool true) H' := by
  rw [Try.params7] at h
  obtain ⟨v, l, rfl, h1, h2⟩ := good_args_cons h
  obtain rfl := good_args_nil h2
  obtain ⟨_, g⟩ := goodV_one (by kernel_rfl) h1
  obtain ⟨w, code, e, hi, hm, hwf⟩ := good_ints (e := 5) (k := .u8) (by kernel_rfl) (by kernel_rfl) (by kernel_rfl) g
  simp at e
  subst e
  obtain ⟨r, H', hr, rfl⟩ := r_laws_FnShunt hi (fun x hx => wf8 (hwf x hx))
  exact ⟨H', hr⟩
end Go.Proofs.Ytiajbefljkikiaa.AX
