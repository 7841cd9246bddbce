/- A drawn telegram sent, bent and scanned: the law's run. No condition; of the program: the functions' forms. -/
import Derived.Test.YtiajbefljkikiaaDoorTgd
namespace Go.Proofs.YtiajbefljkikiaaDoor.AX
open Go
set_option maxRecDepth 10000
set_option maxHeartbeats 4000000
set_option linter.unusedSimpArgs false
set_option linter.unusedVariables false
theorem Sl.trS {H : Heap} {v : Value} {sz n i ix : Nat} {cs : List Value} (h : Sl H v sz n cs) (hi : i < n) : trS ix v = [.L ix (blk v)] := by
  obtain ⟨b, o', rfl, _⟩ := h.some_ hi
  rfl
theorem abin_sneB {s t : ByteArray} : abin .neq (.string s) (.string t) = some (.bool (!(s.toList == t.toList))) := nofl rfl
theorem r_laws_sameTelegram {H : Heap} {va vb : Value} {a b : Tel} (ha : Bts H va a.2.2) (hb : Bts H vb b.2.2) (hx : ∀ x ∈ a.2.2, isB x) (hy : ∀ x ∈ b.2.2, isB x) : Run Tryd.prog 11 [.agg #[.int .i64 a.1, .int .i64 a.2.1, va], .agg #[.int .i64 b.1, .int .i64 b.2.1, vb]] H fun r H' => Keep H H' ∧ r = .bool (decide (a = b)) := by
  have x1 := Sl.noTup_ ha
  have x2 := Sl.cells_ ha
  have y1 := Sl.noTup_ hb
  have y2 := Sl.cells_ hb
  obtain ⟨a1, a2, a3⟩ := a
  obtain ⟨b1, b2, b3⟩ := b
  refine Run.intro c11 rfl ?_
  simp (maxSteps := 4000000) (disch := omega) only [Zq, evO, vbox, wr, Zeq, if_true, if_false, Nat.reduceEqDiff, Nat.reduceAdd, Nat.reduceLeDiff, Nat.reduceSub, and_self, and_true, true_and, reduceIte, reduceCtorEq, eq_self, implies_true, forall_const, false_implies, imp_self, decide_true, decide_false, x11, x1, x2, y1, y2]
  generalize hG0 : H.push [.int .i64 a1, .int .i64 a2, va] = H0
  have k0 : Keep H H0 := by rw [← hG0]; exact Keep.push _ _
  have g0 : H0.get H.nxt = some (.own [.int .i64 a1, .int .i64 a2, va]) := by rw [← hG0, push_get', if_pos rfl]
  have n0 : H0.nxt = H.nxt + 1 := by rw [← hG0, Zbg]
  generalize hG1 : H0.push [.int .i64 b1, .int .i64 b2, vb] = H1
  have k1 : Keep H0 H1 := by rw [← hG1]; exact Keep.push _ _
  have g1 : H1.get H0.nxt = some (.own [.int .i64 b1, .int .i64 b2, vb]) := by rw [← hG1, push_get', if_pos rfl]
  have n1 : H1.nxt = H0.nxt + 1 := by rw [← hG1, Zbg]
  rw [n0] at g1
  have g1a := (k1.get H.nxt (by omega)).trans g0
  have k01 := k0.trans k1
  have sa := bts_str (IntsK.keep ha k01)
  have sb := bts_str (IntsK.keep hb k01)
  have hs := strB_eq hx hy
  simp only at sa sb hs
  by_cases e1 : a1 = b1
  rotate_left
  · simp (maxSteps := 4000000) (disch := omega) only [Zq, evO, vbox, wr, Zeq, if_true, if_false, Nat.reduceEqDiff, Nat.reduceAdd, Nat.reduceLeDiff, Nat.reduceSub, and_self, and_true, true_and, reduceIte, reduceCtorEq, eq_self, implies_true, forall_const, false_implies, imp_self, decide_true, decide_false, fix_nil, fix_cons, g0, g1, g1a, Zfm e1]
    exact ⟨k01, by rw [decide_eq_false]; intro e; injection e; contradiction⟩
  by_cases e2 : a2 = b2
  rotate_left
  · simp (maxSteps := 4000000) (disch := omega) only [Zq, evO, vbox, wr, Zeq, if_true, if_false, Nat.reduceEqDiff, Nat.reduceAdd, Nat.reduceLeDiff, Nat.reduceSub, and_self, and_true, true_and, reduceIte, reduceCtorEq, eq_self, implies_true, forall_const, false_implies, imp_self, decide_true, decide_false, fix_nil, fix_cons, g0, g1, g1a, Zfl e1, Zfm e2]
    exact ⟨k01, by rw [decide_eq_false]; intro e; injection e with _ e; injection e; contradiction⟩
  subst e1 e2
  by_cases e3 : a3 = b3
  · subst e3
    simp (maxSteps := 4000000) (disch := omega) only [Zq, evO, vbox, wr, Zeq, if_true, if_false, Nat.reduceEqDiff, Nat.reduceAdd, Nat.reduceLeDiff, Nat.reduceSub, and_self, and_true, true_and, reduceIte, reduceCtorEq, eq_self, implies_true, forall_const, false_implies, imp_self, decide_true, decide_false, fix_nil, fix_cons, g0, g1, g1a, Zfl (rfl : a1 = a1), Zfl (rfl : a2 = a2), GO_b2s, sa, sb, abin_seqB, hs]
    exact k01
  · simp (maxSteps := 4000000) (disch := omega) only [Zq, evO, vbox, wr, Zeq, if_true, if_false, Nat.reduceEqDiff, Nat.reduceAdd, Nat.reduceLeDiff, Nat.reduceSub, and_self, and_true, true_and, reduceIte, reduceCtorEq, eq_self, implies_true, forall_const, false_implies, imp_self, decide_true, decide_false, fix_nil, fix_cons, g0, g1, g1a, Zfl (rfl : a1 = a1), Zfl (rfl : a2 = a2), GO_b2s, sa, sb, abin_seqB, hs]
    exact ⟨k01, by simp⟩
theorem r_laws_FnTelegram {H : Heap} {v0 : Value} {code : List Int} (h : Bts' H v0 code) (hc : ∀ x ∈ code, 0 ≤ x ∧ x ≤ 255) : Run Tryd.prog 3 [v0] H fun r _ => r = .bool true := by
  refine Run.intro c3 rfl ?_
  simp (maxSteps := 4000000) (disch := omega) only [Zq, evO, vbox, wr, Zeq, if_true, if_false, Nat.reduceEqDiff, Nat.reduceAdd, Nat.reduceLeDiff, Nat.reduceSub, and_self, and_true, true_and, reduceIte, reduceCtorEq, eq_self, implies_true, forall_const, false_implies, imp_self, decide_true, decide_false, x3]
  refine GO_call ((r_laws_big h).mono ?_)
  rintro _ H1 ⟨k1, rfl⟩
  by_cases hl : code.length ≤ 1048576
  rotate_left
  · simp (maxSteps := 4000000) (disch := omega) only [Zq, evO, vbox, wr, Zeq, if_true, if_false, Nat.reduceEqDiff, Nat.reduceAdd, Nat.reduceLeDiff, Nat.reduceSub, and_self, and_true, true_and, reduceIte, reduceCtorEq, eq_self, implies_true, forall_const, false_implies, imp_self, decide_true, decide_false, fix_nil, fix_cons]
  simp (maxSteps := 4000000) (disch := omega) only [Zq, evO, vbox, wr, Zeq, if_true, if_false, Nat.reduceEqDiff, Nat.reduceAdd, Nat.reduceLeDiff, Nat.reduceSub, and_self, and_true, true_and, reduceIte, reduceCtorEq, eq_self, implies_true, forall_const, false_implies, imp_self, decide_true, decide_false, fix_nil, fix_cons]
  refine GO_call ((r_spec_DrawRightTelegram (IntsK.keep h k1) hl hc).mono ?_)
  rintro _ H2 ⟨k2, a, b, body, w, rfl, ha, hb, hbl, hbB, hw⟩
  obtain ⟨t, ht⟩ : ∃ t : Tel, t = ((a : Int), (b : Int), body) := ⟨_, rfl⟩
  have hok : okT t = true := by rw [ht]; simp [okT, okTel, inR]; omega
  have hok' : okTel (a : Int) (b : Int) body.length = true := by have := hok; rw [ht] at this; exact this
  have hbt : ∀ x ∈ t.2.2, isB x := by rw [ht]; exact hbB
  have x1 := Sl.noTup_ hw
  have x2 := Sl.cells_ hw
  simp (maxSteps := 4000000) (disch := omega) only [Zq, evO, vbox, wr, Zeq, if_true, if_false, Nat.reduceEqDiff, Nat.reduceAdd, Nat.reduceLeDiff, Nat.reduceSub, and_self, and_true, true_and, reduceIte, reduceCtorEq, eq_self, implies_true, forall_const, false_implies, imp_self, decide_true, decide_false, fix_nil, fix_cons, x1, x2]
  generalize hG3 : (H2.push [.int .i64 0, .int .i64 0, .slice none 0 0]).set H2.nxt [.int .i64 a, .int .i64 b, w] = H3
  have k3 : Keep H2 H3 := by rw [← hG3]; repeat' (first | exact Keep.refl _ | assumption | refine Keep.push' ?_ | refine Keep.set' ?_ ?_ | refine Keep.moved' ?_ ?_ | omega)
  have g3 : H3.get H2.nxt = some (.own [.int .i64 a, .int .i64 b, w]) := by rw [← hG3, Zbi, if_pos rfl]
  have n3 : H3.nxt = H2.nxt + 1 := by rw [← hG3, Zbh, Zbg]
  have hw3 := IntsK.keep hw k3
  refine GO_call ((r_impl_Encode (a := (a : Int)) (b := (b : Int)) hw3 (by omega)).mono ?_)
  rintro y H4 ⟨k4, Fy, oy, fy⟩
  have n4 := k4.nxt
  have g4 := (k4.get (H2.nxt) (by omega)).trans g3
  obtain ⟨d, hd⟩ : ∃ d, d = encR (a : Int) (b : Int) body := ⟨_, rfl⟩
  rw [← hd] at oy
  have hy4 : Bts H4 y d := bts_of ((rSlc rByte).ownrd oy)
  have hdB : ∀ x ∈ d, isB x := by rw [hd]; exact enc_isB hbB
  have hdl : d.length ≤ 200 := by rw [hd]; exact encR_len _ _ _
  have hde : decI d = (t, true) := by have := dec_enc hok hbt; rw [ht] at this ⊢; rw [hd]; exact this
  have hform : d = (126 : Int) :: bodL t ++ [126] := by rw [hd, ← enc_form hok, ht]
  have hd6 : 6 ≤ d.length := by
    rw [hform]
    have := bodL_len t
    simp only [List.length_append, List.length_cons, List.length_nil]
    omega
  have hd0 : d.getD 0 0 = 126 := by rw [hform]; rfl
  have hdz : d.getD (d.length - 1) 0 = 126 := by
    rw [hform, List.getD_eq_getElem?_getD, List.getElem?_append_right (by simp)]
    simp
  have y1 := Sl.noTup_ hy4
  have y2 := Sl.cells_ hy4
  simp (maxSteps := 4000000) (disch := omega) only [Zq, evO, vbox, wr, Zeq, if_true, if_false, Nat.reduceEqDiff, Nat.reduceAdd, Nat.reduceLeDiff, Nat.reduceSub, and_self, and_true, true_and, reduceIte, reduceCtorEq, eq_self, implies_true, forall_const, false_implies, imp_self, decide_true, decide_false, fix_nil, fix_cons, g3, g4, y1, y2]
  refine GO_call ((r_impl_Decode hy4 (by omega) hdB).mono ?_)
  rintro _ H5 ⟨k5, bv, G, rfl, ob, hG, hGf⟩
  have n5 := k5.nxt
  have g5 := (k5.get (H2.nxt) (by omega)).trans g4
  rw [hde] at ob ⊢
  have hb5 : Bts H5 bv t.2.2 := bts_of ((rSlc rByte).ownrd ob)
  have z1 := Sl.noTup_ hb5
  have z2 := Sl.cells_ hb5
  simp (maxSteps := 4000000) (disch := omega) only [Zq, evO, vbox, wr, Zeq, if_true, if_false, Nat.reduceEqDiff, Nat.reduceAdd, Nat.reduceLeDiff, Nat.reduceSub, and_self, and_true, true_and, reduceIte, reduceCtorEq, eq_self, implies_true, forall_const, false_implies, imp_self, decide_true, decide_false, fix_nil, fix_cons, g3, g4, g5, z1, z2]
  generalize hG6 : (H5.push [.int .i64 0, .int .i64 0, .slice none 0 0]).set H5.nxt [.int .i64 t.1, .int .i64 t.2.1, bv] = H6
  have k6 : Keep H5 H6 := by rw [← hG6]; repeat' (first | exact Keep.refl _ | assumption | refine Keep.push' ?_ | refine Keep.set' ?_ ?_ | refine Keep.moved' ?_ ?_ | omega)
  have g6 : H6.get H5.nxt = some (.own [.int .i64 t.1, .int .i64 t.2.1, bv]) := by rw [← hG6, Zbi, if_pos rfl]
  have n6 : H6.nxt = H5.nxt + 1 := by rw [← hG6, Zbh, Zbg]
  have g6t := (k6.get H2.nxt (by omega)).trans g5
  have k36 := k4.trans (k5.trans k6)
  have hw6 := IntsK.keep hw3 k36
  have hb6 := IntsK.keep hb5 k6
  refine GO_call ((r_impl_TelegramOk (a := (a : Int)) (b := (b : Int)) (of_bts hw6)).mono ?_)
  rintro _ H7 ⟨k7, rfl⟩
  have n7 := k7.nxt
  have g7 := (k7.get (H5.nxt) (by omega)).trans g6
  have g7t := (k7.get (H2.nxt) (by omega)).trans g6t
  have k37 := k36.trans k7
  simp (maxSteps := 4000000) (disch := omega) only [Zq, evO, vbox, wr, Zeq, if_true, if_false, Nat.reduceEqDiff, Nat.reduceAdd, Nat.reduceLeDiff, Nat.reduceSub, and_self, and_true, true_and, reduceIte, reduceCtorEq, eq_self, implies_true, forall_const, false_implies, imp_self, decide_true, decide_false, fix_nil, fix_cons, g3, g4, g5, g6, g6t, g7, g7t, hok']
  have e8 : ((a : Int), (b : Int), body) = t := ht.symm
  refine GO_call ((r_laws_sameTelegram (a := t) (b := ((a : Int), (b : Int), body)) (IntsK.keep hb6 k7) (IntsK.keep hw3 k37) hbt hbB).mono ?_)
  rintro _ H8 ⟨k8, rfl⟩
  have n8 := k8.nxt
  have g8 := (k8.get (H5.nxt) (by omega)).trans g7
  have g8t := (k8.get (H2.nxt) (by omega)).trans g7t
  have k38 := k37.trans k8
  have hy8 := IntsK.keep hy4 (k5.trans (k6.trans (k7.trans k8)))
  have ly := fun H0 : Heap => IntsK.len_ (H1 := H0) hy4
  have hwd : IntKind.i64.wrap ((d.length : Int) - 1) = ((d.length - 1 : Nat) : Int) := by rw [wrap64 (by omega) (by omega)]; omega
  have ix0 : ∀ H0 : Heap, vidx H0 1 y (.int .i64 0) = some (adr y 0 1 0, H0) := fun H0 => IntsK.idx (k' := .i64) (H1 := H0) (i := 0) hy4 (by omega)
  have ixz : ∀ H0 : Heap, vidx H0 1 y (.int .i64 ((d.length - 1 : Nat) : Int)) = some (adr y (d.length - 1) 1 0, H0) := fun H0 => IntsK.idx (k' := .i64) (H1 := H0) (i := d.length - 1) hy4 (by omega)
  have ld0 := IntsK.ld hy8 (by omega : 0 < d.length)
  have ldz := IntsK.ld hy8 (by omega : d.length - 1 < d.length)
  rw [hd0] at ld0
  rw [hdz] at ldz
  have o9 : NewF (fZ .u8) 1 H8 (H8.push []) (.slice (some ⟨H8.nxt, 0, none⟩) 0 1) [] := NewF.new (Keep.refl _)
  obtain ⟨u, H9, e9, o9', kk9, n9⟩ := NewF.app (bytes := 1) (ys := d) (fZ_len .u8) (by omega) o9 (IntsK.slF (IntsK.keep hy8 (Keep.push _ _))) (by simp; omega)
  rw [List.nil_append] at o9'
  have k9 : Keep H8 H9 := kk9 H8 (Nat.le_refl _) (Keep.push _ _)
  have g9 := (k9.get H5.nxt (by have := k6.nxt; have := k7.nxt; have := k8.nxt; omega)).trans g8
  have g9t := (k9.get H2.nxt (by have := k36.nxt; have := k7.nxt; have := k8.nxt; omega)).trans g8t
  simp (maxSteps := 4000000) (disch := omega) only [Zq, evO, vbox, wr, Zeq, if_true, if_false, Nat.reduceEqDiff, Nat.reduceAdd, Nat.reduceLeDiff, Nat.reduceSub, and_self, and_true, true_and, reduceIte, reduceCtorEq, eq_self, implies_true, forall_const, false_implies, imp_self, decide_true, decide_false, fix_nil, fix_cons, g3, g4, g5, g6, g6t, g7, g7t, g8, g8t, g9, g9t, e8, decide_eq_true (rfl : t = t), ly, Zfi (by omega : ¬ (d.length : Int) < 6), ix0, ld0, hwd, ixz, ldz, Zfl (rfl : (126 : Int) = 126), Zff, e9]
  have n9' := k9.nxt
  have k39 := k38.trans k9
  have h9 := IntsK.keep h (k1.trans (k2.trans (k3.trans k39)))
  first | refine G_fix [0, 3, 4, 7, 61] ?_ | refine GO_fix [0, 3, 4, 7, 61] ?_ | refine cK_fix [0, 3, 4, 7, 61] ?_
  intro T hT
  simp only [fix_nil, fix_cons, Zq, evO, vbox, wr, Zeq, if_true, if_false, Nat.reduceEqDiff, Nat.reduceAdd, Nat.reduceLeDiff, Nat.reduceSub, and_self, and_true, true_and, reduceIte, reduceCtorEq, eq_self, implies_true, forall_const, false_implies, imp_self, decide_true, decide_false] at hT
  obtain ⟨t0, t3, t4, t7, t61⟩ := hT
  refine GO_call_eq (by (simp (maxSteps := 4000000) (disch := omega) only [Zq, evO, vbox, wr, Zeq, if_true, if_false, Nat.reduceEqDiff, Nat.reduceAdd, Nat.reduceLeDiff, Nat.reduceSub, and_self, and_true, true_and, reduceIte, reduceCtorEq, eq_self, implies_true, forall_const, false_implies, imp_self, decide_true, decide_false, fix_nil, fix_cons, g3, g4, g5, g6, g6t, g7, g7t, g8, g8t, g9, g9t, t0, t3, t4, t7, t61]) <;> rfl) ((r_laws_at (i := 3) h9 hl (by omega) hc).mono ?_)
  rintro _ HA ⟨kA, rfl⟩
  have nA := kA.nxt
  have gA := (kA.get (H5.nxt) (by omega)).trans g9
  have gAt := (kA.get (H2.nxt) (by omega)).trans g9t
  have r3 := atR_range (i := 3) hc
  have r4 := atR_range (i := 4) hc
  obtain ⟨z3, hz3⟩ := Int.eq_ofNat_of_zero_le r3.1
  obtain ⟨z4, hz4⟩ := Int.eq_ofNat_of_zero_le r4.1
  rw [hz3]
  have oA := o9'.keep kA
  have hu9 : Bts H9 u d := o9'.intsK
  have huA : Bts HA u d := oA.intsK
  have lu := fun H0 : Heap => IntsK.len_ (H1 := H0) hu9
  obtain ⟨q, hq⟩ : ∃ q, q = z3 % d.length := ⟨_, rfl⟩
  have hql : q < d.length := by rw [hq]; exact Nat.mod_lt _ (by omega)
  have hrem : abin .rem (.int .i64 (z3 : Int)) (.int .i64 (d.length : Int)) = some (.int .i64 (q : Int)) := by
    rw [abin_rem (by omega), Int.tmod_eq_emod_of_nonneg (by omega), hq]; rfl
  have hrem4 : abin .rem (.int .i64 (z4 : Int)) (.int .i64 255) = some (.int .i64 ((z4 % 255 : Nat) : Int)) := by
    rw [abin_rem (by decide), Int.tmod_eq_emod_of_nonneg (by omega)]; rfl
  obtain ⟨c, hcq⟩ : ∃ c : Int, c = 1 + ((z4 % 255 : Nat) : Int) := ⟨_, rfl⟩
  have hc1 : 1 ≤ c ∧ c ≤ 255 := by have := Nat.mod_lt z4 (by omega : 0 < 255); omega
  have hwc : IntKind.i64.wrap (1 + ((z4 % 255 : Nat) : Int)) = c := by rw [← hcq]; exact wrap64 (by omega) (by omega)
  have hwu : IntKind.u8.wrap c = c := wrapB c ⟨by omega, by omega⟩
  have ixq := fun H0 : Heap => IntsK.idx (k' := .i64) (H1 := H0) (i := q) hu9 hql
  have ldq := IntsK.ld huA hql
  have txq := fun ix : Nat => (Sl.trL (ix := ix) (o := 0) huA hql : _)
  have blu := Sl.blk_lt huA hql
  simp (maxSteps := 4000000) (disch := omega) only [Zq, evO, vbox, wr, Zeq, if_true, if_false, Nat.reduceEqDiff, Nat.reduceAdd, Nat.reduceLeDiff, Nat.reduceSub, and_self, and_true, true_and, reduceIte, reduceCtorEq, eq_self, implies_true, forall_const, false_implies, imp_self, decide_true, decide_false, fix_nil, fix_cons, g3, g4, g5, g6, g6t, g7, g7t, g8, g8t, g9, g9t, t0, t3, t4, t7, t61, gA, gAt, lu, hrem]
  simp (maxSteps := 4000000) (disch := omega) only [ZD, Zio, Zip, pre_, beq_self_eq_true, Nat.reduceBEq, Zq, evO, vbox, wr, Zeq, if_true, if_false, Nat.reduceEqDiff, Nat.reduceAdd, Nat.reduceLeDiff, Nat.reduceSub, and_self, and_true, true_and, reduceIte, reduceCtorEq, eq_self, implies_true, forall_const, false_implies, imp_self, decide_true, decide_false, fix_nil, fix_cons, g3, g4, g5, g6, g6t, g7, g7t, g8, g8t, g9, g9t, t0, t3, t4, t7, t61, gA, gAt, G_dreg, ixq, ldq, txq]
  refine GD_call ((r_laws_at (i := 4) (IntsK.keep h9 kA) hl (by omega) hc).mono ?_)
  rintro _ HB ⟨kB, rfl⟩
  rw [hz4]
  have oB := oA.keep kB
  have gB := (kB.get H5.nxt (by have := kA.nxt; omega)).trans gA
  have gBt := (kB.get H2.nxt (by have := kA.nxt; have := k36.nxt; have := k7.nxt; have := k8.nxt; omega)).trans gAt
  have hvx : noTup (Value.int .u8 (xorI .u8 (d.getD q 0) c)) = true := rfl
  obtain ⟨HC, eC, oC, kkC, nC, oldC⟩ := NewF.st (y := xorI .u8 (d.getD q 0) c) (fZ_len .u8) oB (x := .int .u8 (xorI .u8 (d.getD q 0) c)) rfl rfl hql
  have k8B : Keep H8 HB := k9.trans (kA.trans kB)
  have kC := kkC H8 (Nat.le_refl _) k8B
  have xn := xor_ne (hdB _ (getD_mem hql)) hc1.1 hc1.2
  obtain ⟨bent, hbe⟩ : ∃ bent, bent = d.set q (xorI .u8 (d.getD q 0) c) := ⟨_, rfl⟩
  have hbn : bent ≠ d := by rw [hbe]; exact set_ne hql xn.2
  have hbB' : ∀ x ∈ bent, isB x := by rw [hbe]; exact set_isB hdB xn.1
  have hbel : bent.length = d.length := by rw [hbe, List.length_set]
  rw [← hbe] at oC
  have n58 : H5.nxt < H8.nxt ∧ H2.nxt < H5.nxt := by have := k3.nxt; have := k4.nxt; have := k5.nxt; have := k6.nxt; have := k7.nxt; have := k8.nxt; omega
  have g8C : ∀ {a : Nat} {o : Obj}, a < H8.nxt → H8.get a = some o → HC.get a = some o := fun ha hg => (kC.get _ ha).trans hg
  have gC := g8C n58.1 g8
  have gCt := g8C (by omega : H2.nxt < H8.nxt) g8t
  simp (maxSteps := 4000000) (disch := omega) only [ZD, Zio, Zip, pre_, beq_self_eq_true, Nat.reduceBEq, Zq, evO, vbox, wr, Zeq, if_true, if_false, Nat.reduceEqDiff, Nat.reduceAdd, Nat.reduceLeDiff, Nat.reduceSub, and_self, and_true, true_and, reduceIte, reduceCtorEq, eq_self, implies_true, forall_const, false_implies, imp_self, decide_true, decide_false, fix_nil, fix_cons, g3, g4, g5, g6, g6t, g7, g7t, g8, g8t, g9, g9t, t0, t3, t4, t7, t61, gA, gAt, g8C, hrem4, hwc, hwu, abin_xor, ixq, eC]
  first | with_reducible refine And.intro (by repeat' (first | apply And.intro | omega | exact kB.get _ (by omega))) ?_ | skip
  have hu : Bts HC u bent := oC.intsK
  have nCC := kC.nxt
  refine GO_call ((r_impl_Decode hu (by omega) hbB').mono ?_)
  rintro _ HD ⟨kD, cv, Gq, rfl, oD, hGD, hGDf⟩
  have nD := kD.nxt
  have gD := (kD.get (H5.nxt) (by omega)).trans gC
  have gDt := (kD.get (H2.nxt) (by omega)).trans gCt
  obtain ⟨E, hE⟩ : ∃ E, E = decI bent := ⟨_, rfl⟩
  rw [← hE] at oD ⊢
  have hcv := bts_of ((rSlc rByte).ownrd oD)
  have c1 := Sl.noTup_ hcv
  have c2 := Sl.cells_ hcv
  simp (maxSteps := 4000000) (disch := omega) only [Zq, evO, vbox, wr, Zeq, if_true, if_false, Nat.reduceEqDiff, Nat.reduceAdd, Nat.reduceLeDiff, Nat.reduceSub, and_self, and_true, true_and, reduceIte, reduceCtorEq, eq_self, implies_true, forall_const, false_implies, imp_self, decide_true, decide_false, fix_nil, fix_cons, g3, g4, g5, g6, g6t, g7, g7t, g8, g8t, g9, g9t, t0, t3, t4, t7, t61, gA, gAt, g8C, gD, gDt, c1, c2]
  generalize hGE : (HD.push [.int .i64 0, .int .i64 0, .slice none 0 0]).set HD.nxt [.int .i64 E.1.1, .int .i64 E.1.2.1, cv] = HE
  have kE : Keep HD HE := by rw [← hGE]; repeat' (first | exact Keep.refl _ | assumption | refine Keep.push' ?_ | refine Keep.set' ?_ ?_ | refine Keep.moved' ?_ ?_ | omega)
  have gE : HE.get HD.nxt = some (.own [.int .i64 E.1.1, .int .i64 E.1.2.1, cv]) := by rw [← hGE, Zbi, if_pos rfl]
  have nE : HE.nxt = HD.nxt + 1 := by rw [← hGE, Zbh, Zbg]
  first | refine G_fix [3, 4, 7, 9, 10] ?_ | refine GO_fix [3, 4, 7, 9, 10] ?_ | refine cK_fix [3, 4, 7, 9, 10] ?_
  intro T hT
  simp only [fix_nil, fix_cons, Zq, evO, vbox, wr, Zeq, if_true, if_false, Nat.reduceEqDiff, Nat.reduceAdd, Nat.reduceLeDiff, Nat.reduceSub, and_self, and_true, true_and, reduceIte, reduceCtorEq, eq_self, implies_true, forall_const, false_implies, imp_self, decide_true, decide_false, t0, t3, t4, t7, t61] at hT
  obtain ⟨t3, t4, t7, t9, t10⟩ := hT
  have nD := kD.nxt
  have kCE := kD.trans kE
  have gEt := (kCE.get H2.nxt (by have := kC.nxt; omega)).trans gCt
  have hcE := IntsK.keep hcv kE
  have hEB : ∀ x ∈ E.1.2.2, isB x := by rw [hE]; exact dec_isB hbB'
  have k38E : Keep H8 HE := kC.trans kCE
  have hwE := IntsK.keep hw3 (k38.trans k38E)
  first | refine cK_cut (fun T HX => T 97 = .bool false ∧ T 3 = ptr H2.nxt 0 ∧ T 4 = y ∧ Keep HE HX) ?_ ?_ | refine G_cut (fun T HX => T 97 = .bool false ∧ T 3 = ptr H2.nxt 0 ∧ T 4 = y ∧ Keep HE HX) ?_ ?_ | refine GO_cut (fun T HX => T 97 = .bool false ∧ T 3 = ptr H2.nxt 0 ∧ T 4 = y ∧ Keep HE HX) ?_ ?_
  · cases hE2 : E.2 with
    | false =>
      rw [hE2] at t10
      simp (maxSteps := 4000000) (disch := omega) only [ZD, Zio, Zip, pre_, beq_self_eq_true, Nat.reduceBEq, Zq, evO, vbox, wr, Zeq, if_true, if_false, Nat.reduceEqDiff, Nat.reduceAdd, Nat.reduceLeDiff, Nat.reduceSub, and_self, and_true, true_and, reduceIte, reduceCtorEq, eq_self, implies_true, forall_const, false_implies, imp_self, decide_true, decide_false, fix_nil, fix_cons, g3, g4, g5, g6, g6t, g7, g7t, g8, g8t, g9, g9t, t0, t3, t4, t7, t61, gA, gAt, g8C, gD, gDt, gE, t9, t10, G_dreg]
      exact Keep.refl _
    | true =>
      rw [hE2] at t10
      simp (maxSteps := 4000000) (disch := omega) only [ZD, Zio, Zip, pre_, beq_self_eq_true, Nat.reduceBEq, Zq, evO, vbox, wr, Zeq, if_true, if_false, Nat.reduceEqDiff, Nat.reduceAdd, Nat.reduceLeDiff, Nat.reduceSub, and_self, and_true, true_and, reduceIte, reduceCtorEq, eq_self, implies_true, forall_const, false_implies, imp_self, decide_true, decide_false, fix_nil, fix_cons, g3, g4, g5, g6, g6t, g7, g7t, g8, g8t, g9, g9t, t0, t3, t4, t7, t61, gA, gAt, g8C, gD, gDt, gE, t9, t10, G_dreg, gE, gEt]
      refine GD_call ((r_laws_sameTelegram (a := E.1) (b := ((a : Int), (b : Int), body)) hcE hwE hEB hbB).mono ?_)
      rintro _ HF ⟨kF, rfl⟩
      have hinv := dec_inv (d := bent) (by rw [← hE]; exact hE2)
      rw [← hE] at hinv
      have hne : ¬ E.1 = ((a : Int), (b : Int), body) := fun e => hbn (by rw [e] at hinv; exact hinv.symm.trans hd.symm)
      have gF := (kF.get HD.nxt (by omega)).trans gE
      simp (maxSteps := 4000000) (disch := omega) only [ZD, Zio, Zip, pre_, beq_self_eq_true, Nat.reduceBEq, Zq, evO, vbox, wr, Zeq, if_true, if_false, Nat.reduceEqDiff, Nat.reduceAdd, Nat.reduceLeDiff, Nat.reduceSub, and_self, and_true, true_and, reduceIte, reduceCtorEq, eq_self, implies_true, forall_const, false_implies, imp_self, decide_true, decide_false, fix_nil, fix_cons, g3, g4, g5, g6, g6t, g7, g7t, g8, g8t, g9, g9t, t0, t3, t4, t7, t61, gA, gAt, g8C, gD, gDt, gE, t9, t10, decide_eq_false hne, gF]
      refine GD_call ((r_impl_Encode (a := E.1.1) (b := E.1.2.1) (IntsK.keep hcE kF) (by have := dec_len bent; rw [← hE] at this; omega)).mono ?_)
      rintro ey HG ⟨kG, Fe, oe, fe⟩
      rw [hinv] at oe
      have hey := bts_of ((rSlc rByte).ownrd oe)
      have huG : Bts HG u bent := IntsK.keep hu (kCE.trans (kF.trans kG))
      have nF := kF.nxt
      have nG := kG.nxt
      have tS1 := fun ix : Nat => Sl.trS (ix := ix) hey (by omega : 0 < bent.length)
      have tS2 := fun ix : Nat => Sl.trS (ix := ix) huG (by omega : 0 < bent.length)
      have blu' := Sl.blk_lt hu (by omega : 0 < bent.length)
      have sE := bts_str hey
      have sU := bts_str huG
      have sEU := strB_eq hbB' hbB'
      have k38G : Keep H8 HG := k38E.trans (kF.trans kG)
      simp (maxSteps := 4000000) (disch := omega) only [ZD, Zio, Zip, pre_, beq_self_eq_true, Nat.reduceBEq, Zq, evO, vbox, wr, Zeq, if_true, if_false, Nat.reduceEqDiff, Nat.reduceAdd, Nat.reduceLeDiff, Nat.reduceSub, and_self, and_true, true_and, reduceIte, reduceCtorEq, eq_self, implies_true, forall_const, false_implies, imp_self, decide_true, decide_false, fix_nil, fix_cons, g3, g4, g5, g6, g6t, g7, g7t, g8, g8t, g9, g9t, t0, t3, t4, t7, t61, gA, gAt, g8C, gD, gDt, gE, t9, t10, GD_b2s, trOf_b2s, sE, sU, tS1, tS2, abin_sneB, sEU, decide_eq_true (rfl : bent = bent), Bool.not_true]
      first | with_reducible refine And.intro (by repeat' (first | apply And.intro | omega | exact kG.get _ (by omega))) ?_ | skip
      exact kF.trans kG
  rintro T HX ⟨t97, t3, t4, kEX⟩
  have kX : Keep H8 HX := k38E.trans kEX
  have NX := kX.nxt
  have hyX := IntsK.keep hy8 kX
  have gXt := (kX.get _ (by omega : H2.nxt < H8.nxt)).trans g8t
  have hwX := IntsK.keep hw3 (k38.trans kX)
  have p1 : NewF (fZ .u8) 1 HX (HX.push [Value.int .u8 126, .int .u8 126]) (.slice (some ⟨HX.nxt, 0, none⟩) 2 1) [126, 126] := NewF.lit (f := fZ .u8) (n := 1) (xs := [126, 126]) (Keep.refl _)
  obtain ⟨s2, HP, e2, p2, kk2, nP⟩ := NewF.app (bytes := 1) (ys := d) (fZ_len .u8) (by omega) p1 (IntsK.slF (IntsK.keep hyX (Keep.push _ _))) (by simp only [List.length_cons, List.length_nil]; omega)
  have kP := kk2 HX (Nat.le_refl _) (Keep.push _ _)
  obtain ⟨s3, HQ, e3, p3, kk3, nQ⟩ := NewF.one (bytes := 1) (y := (126 : Int)) (fZ_len .u8) (by omega) p2 (by simp only [List.length_append, List.length_cons, List.length_nil]; omega)
  have kQ := kk3 HX (Nat.le_refl _) kP
  simp only [fZ] at e3
  have hz := p3.intsK
  have gQt := (kQ.get H2.nxt (by omega)).trans gXt
  simp (maxSteps := 4000000) (disch := omega) only [Zq, evO, vbox, wr, Zeq, if_true, if_false, Nat.reduceEqDiff, Nat.reduceAdd, Nat.reduceLeDiff, Nat.reduceSub, and_self, and_true, true_and, reduceIte, reduceCtorEq, eq_self, implies_true, forall_const, false_implies, imp_self, decide_true, decide_false, fix_nil, fix_cons, g3, g4, g5, g6, g6t, g7, g7t, g8, g8t, g9, g9t, t0, t3, t4, t7, t61, gA, gAt, g8C, gD, gDt, gE, t9, t10, t97, Zff, e2, e3]
  have hzB : ∀ x ∈ ([126, 126] ++ d) ++ [126], isB x := fun x hx => by
    have h126 : isB 126 := ⟨by omega, by omega⟩
    rcases List.mem_append.1 hx with hx | hx
    · rcases List.mem_append.1 hx with hx | hx
      · have e : x = 126 := by simpa using hx
        rw [e]; exact h126
      · exact hdB x hx
    · rw [List.mem_singleton.1 hx]; exact h126
  refine GO_call ((r_impl_Scan hz hzB (by simp only [List.length_append, List.length_cons, List.length_nil]; omega)).mono ?_)
  rintro _ HS ⟨kS, ws, FS, rfl, oS, fS⟩
  have nS := kS.nxt
  have hsc : scR (([126, 126] ++ d) ++ [126]) = ([t], 0) := by have := sc_one hok hbt; rw [ht] at this ⊢; rw [hd]; exact this
  rw [hsc] at oS ⊢
  have rS := (rSlc rTelegram).ownrd oS
  obtain ⟨wv, l1, _, _, _, rv⟩ := tel_el rS (i := 0) (by simp)
  simp only [List.getElem_cons_zero] at l1 rv
  have lS : ∀ H : Heap, vlen H ws = some (.int .i64 1, H) := fun _ => slc_len rS
  have ixS : ∀ H0 : Heap, vidx H0 3 ws (.int .i64 0) = some (adr ws 0 3 0, H0) := fun H0 => slc_idx (r := rTelegram) (H1 := H0) (sz := 3) (i := 0) (k := .i64) rfl rS (by simp)
  have txS := fun (ix o : Nat) => slc_trL (r := rTelegram) (sz := 3) (i := 0) (ix := ix) (o := o) rfl rS (by simp)
  have gSt := (kS.get H2.nxt (by have := kQ.nxt; omega)).trans gQt
  have w1 := (slc_cell rS).1
  have w2 := (slc_cell rS).2
  have kXS := kQ.trans kS
  have hwS := IntsK.keep hwX kXS
  simp (maxSteps := 4000000) (disch := omega) only [Zq, evO, vbox, wr, Zeq, if_true, if_false, Nat.reduceEqDiff, Nat.reduceAdd, Nat.reduceLeDiff, Nat.reduceSub, and_self, and_true, true_and, reduceIte, reduceCtorEq, eq_self, implies_true, forall_const, false_implies, imp_self, decide_true, decide_false, fix_nil, fix_cons, g3, g4, g5, g6, g6t, g7, g7t, g8, g8t, g9, g9t, t0, t3, t4, t7, t61, gA, gAt, g8C, gD, gDt, gE, t9, t10, t97, w1, w2]
  simp (maxSteps := 4000000) (disch := omega) only [ZD, Zio, Zip, pre_, beq_self_eq_true, Nat.reduceBEq, Zq, evO, vbox, wr, Zeq, if_true, if_false, Nat.reduceEqDiff, Nat.reduceAdd, Nat.reduceLeDiff, Nat.reduceSub, and_self, and_true, true_and, reduceIte, reduceCtorEq, eq_self, implies_true, forall_const, false_implies, imp_self, decide_true, decide_false, fix_nil, fix_cons, g3, g4, g5, g6, g6t, g7, g7t, g8, g8t, g9, g9t, t0, t3, t4, t7, t61, gA, gAt, g8C, gD, gDt, gE, t9, t10, t97, G_dreg, lS, ixS, l1, txS, gSt]
  refine GD_call ((r_laws_sameTelegram (a := t) (b := ((a : Int), (b : Int), body)) (bts_of rv) hwS hbt hbB).mono ?_)
  rintro _ HT ⟨kT, rfl⟩
  have gTt := (kT.get H2.nxt (by have := kS.nxt; have := kQ.nxt; omega)).trans gSt
  simp (maxSteps := 4000000) (disch := omega) only [ZD, Zio, Zip, pre_, beq_self_eq_true, Nat.reduceBEq, Zq, evO, vbox, wr, Zeq, if_true, if_false, Nat.reduceEqDiff, Nat.reduceAdd, Nat.reduceLeDiff, Nat.reduceSub, and_self, and_true, true_and, reduceIte, reduceCtorEq, eq_self, implies_true, forall_const, false_implies, imp_self, decide_true, decide_false, fix_nil, fix_cons, g3, g4, g5, g6, g6t, g7, g7t, g8, g8t, g9, g9t, t0, t3, t4, t7, t61, gA, gAt, g8C, gD, gDt, gE, t9, t10, t97, e8, decide_eq_true (rfl : t = t), gTt]
  refine GD_call ((r_impl_Crc8 (IntsK.keep hwS kT) (by omega)).mono ?_)
  rintro _ HU ⟨kU, rfl⟩
  have gUt := (kU.get H2.nxt (by have := kS.nxt; have := kQ.nxt; have := kT.nxt; omega)).trans gTt
  simp (maxSteps := 4000000) (disch := omega) only [ZD, Zio, Zip, pre_, beq_self_eq_true, Nat.reduceBEq, Zq, evO, vbox, wr, Zeq, if_true, if_false, Nat.reduceEqDiff, Nat.reduceAdd, Nat.reduceLeDiff, Nat.reduceSub, and_self, and_true, true_and, reduceIte, reduceCtorEq, eq_self, implies_true, forall_const, false_implies, imp_self, decide_true, decide_false, fix_nil, fix_cons, g3, g4, g5, g6, g6t, g7, g7t, g8, g8t, g9, g9t, t0, t3, t4, t7, t61, gA, gAt, g8C, gD, gDt, gE, t9, t10, t97, gUt]
  refine GD_call ((r_spec_Crc8 (IntsK.keep hwS (kT.trans kU)) (by omega)).mono ?_)
  rintro _ HV ⟨kV, rfl⟩
  simp (maxSteps := 4000000) (disch := omega) only [ZD, Zio, Zip, pre_, beq_self_eq_true, Nat.reduceBEq, Zq, evO, vbox, wr, Zeq, if_true, if_false, Nat.reduceEqDiff, Nat.reduceAdd, Nat.reduceLeDiff, Nat.reduceSub, and_self, and_true, true_and, reduceIte, reduceCtorEq, eq_self, implies_true, forall_const, false_implies, imp_self, decide_true, decide_false, fix_nil, fix_cons, g3, g4, g5, g6, g6t, g7, g7t, g8, g8t, g9, g9t, t0, t3, t4, t7, t61, gA, gAt, g8C, gD, gDt, gE, t9, t10, t97, Zfl (rfl : crcR body = crcR body)]
  exact kU.get _ (by have := kS.nxt; have := kQ.nxt; have := kT.nxt; omega)
theorem go_laws_FnTelegram (H : Heap) (xs : List Value) (h : GoodArgs Tryd.prog H Tryd.f3.params.toList xs) : ∃ H', CR Tryd.prog 3 xs H (.bool true) H' := by
  rw [Tryd.params3] at h
  obtain ⟨v, l, rfl, h1, h2⟩ := good_args_cons h
  obtain rfl := good_args_nil h2
  obtain ⟨_, g⟩ := goodV_one (by kernel_rfl) h1
  obtain ⟨w, code, e, hi, hm, hwf⟩ := good_ints (e := 5) (k := .u8) (by kernel_rfl) (by kernel_rfl) (by kernel_rfl) g
  simp at e
  subst e
  obtain ⟨r, H', hr, rfl⟩ := r_laws_FnTelegram hi (fun x hx => wf8 (hwf x hx))
  exact ⟨H', hr⟩
end Go.Proofs.YtiajbefljkikiaaDoor.AX
