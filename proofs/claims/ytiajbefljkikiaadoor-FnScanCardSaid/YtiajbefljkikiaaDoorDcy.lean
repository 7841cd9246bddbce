/- Telegrams read back: the reference's Decode. No condition beyond each law's own; of the program: the functions' forms. -/
import Derived.Test.YtiajbefljkikiaaDoorDcx
namespace Go.Proofs.YtiajbefljkikiaaDoor.AX
open Go
set_option maxRecDepth 10000
set_option maxHeartbeats 4000000
set_option linter.unusedSimpArgs false
set_option linter.unusedVariables false
theorem r_spec_l20Same {H : Heap} {v w : Value} {xs ys : List Int} (hv : Bts H v xs) (hw : Bts H w ys) (hl : xs.length ≤ 1000) (hl2 : ys.length ≤ 1048576) : Run Tryd.prog 44 [v, w] H fun r H' => Keep H H' ∧ r = .bool (decide (xs = ys)) := by
  have lv := fun H1 : Heap => IntsK.len_ (H1 := H1) hv
  have lw := fun H1 : Heap => IntsK.len_ (H1 := H1) hw
  by_cases c : (xs.length : Int) = ys.length
  rotate_left
  · refine Run.intro c44 rfl ?_
    simp (maxSteps := 4000000) (disch := omega) only [Zq, evO, vbox, wr, Zeq, if_true, if_false, Nat.reduceEqDiff, Nat.reduceAdd, Nat.reduceLeDiff, Nat.reduceSub, and_self, and_true, true_and, reduceIte, reduceCtorEq, eq_self, implies_true, forall_const, false_implies, imp_self, decide_true, decide_false, x44, lv, lw, Zfm c]
    exact ⟨Keep.refl _, by rw [decide_eq_false (fun e => c (by rw [e]))]⟩
  refine Run.intro c44 rfl ?_
  simp (maxSteps := 4000000) (disch := omega) only [Zq, evO, vbox, wr, Zeq, if_true, if_false, Nat.reduceEqDiff, Nat.reduceAdd, Nat.reduceLeDiff, Nat.reduceSub, and_self, and_true, true_and, reduceIte, reduceCtorEq, eq_self, implies_true, forall_const, false_implies, imp_self, decide_true, decide_false, x44, lv, lw, Zfl c]
  refine G_forF [0, 1] (xs.length) (fun i T H1 => T 5 = .int .i64 (i : Int) ∧ H1 = H ∧ ∀ j, j < i → xs.getD j 0 = ys.getD j 0) 0 (Nat.zero_le _) ?_ ?_
  · simp (maxSteps := 4000000) (disch := omega) only [Zq, evO, vbox, wr, Zeq, if_true, if_false, Nat.reduceEqDiff, Nat.reduceAdd, Nat.reduceLeDiff, Nat.reduceSub, and_self, and_true, true_and, reduceIte, reduceCtorEq, eq_self, implies_true, forall_const, false_implies, imp_self, decide_true, decide_false, fix_nil, fix_cons]
    exact fun j hj => by omega
  rintro i T H1 hi hT ⟨t5, rfl, he⟩
  simp only [fix_nil, fix_cons, Zq, evO, vbox, wr, Zeq, if_true, if_false, Nat.reduceEqDiff, Nat.reduceAdd, Nat.reduceLeDiff, Nat.reduceSub, and_self, and_true, true_and, reduceIte, reduceCtorEq, eq_self, implies_true, forall_const, false_implies, imp_self, decide_true, decide_false] at hT
  obtain ⟨t0, t1⟩ := hT
  by_cases hin : i < xs.length
  · have ixv := fun H0 : Heap => IntsK.idx (k' := .i64) (H1 := H0) hv hin
    have ixw := fun H0 : Heap => IntsK.idx (k' := .i64) (H1 := H0) hw (by omega : i < ys.length)
    have ev := IntsK.ld hv hin
    have ew := IntsK.ld hw (by omega : i < ys.length)
    simp (maxSteps := 4000000) (disch := omega) only [Zq, evO, vbox, wr, Zeq, if_true, if_false, Nat.reduceEqDiff, Nat.reduceAdd, Nat.reduceLeDiff, Nat.reduceSub, and_self, and_true, true_and, reduceIte, reduceCtorEq, eq_self, implies_true, forall_const, false_implies, imp_self, decide_true, decide_false, fix_nil, fix_cons, t0, t1, t5, lv]
    refine G_calm rfl ?_
    by_cases c2 : xs.getD i 0 = ys.getD i 0
    · simp (maxSteps := 4000000) (disch := omega) only [Zq, evO, vbox, wr, Zeq, if_true, if_false, Nat.reduceEqDiff, Nat.reduceAdd, Nat.reduceLeDiff, Nat.reduceSub, and_self, and_true, true_and, reduceIte, reduceCtorEq, eq_self, implies_true, forall_const, false_implies, imp_self, decide_true, decide_false, fix_nil, fix_cons, t0, t1, t5, ixv, ixw, ev, ew, Zfl c2]
      exact ⟨hin, fun j hj => by
        by_cases e : j = i
        · subst e; exact c2
        · exact he j (by omega)⟩
    · simp (maxSteps := 4000000) (disch := omega) only [Zq, evO, vbox, wr, Zeq, if_true, if_false, Nat.reduceEqDiff, Nat.reduceAdd, Nat.reduceLeDiff, Nat.reduceSub, and_self, and_true, true_and, reduceIte, reduceCtorEq, eq_self, implies_true, forall_const, false_implies, imp_self, decide_true, decide_false, fix_nil, fix_cons, t0, t1, t5, ixv, ixw, ev, ew, Zfm c2]
      exact ⟨Keep.refl _, by rw [decide_eq_false (fun e => c2 (by rw [e]))]⟩
  obtain rfl : i = xs.length := by omega
  simp (maxSteps := 4000000) (disch := omega) only [Zq, evO, vbox, wr, Zeq, if_true, if_false, Nat.reduceEqDiff, Nat.reduceAdd, Nat.reduceLeDiff, Nat.reduceSub, and_self, and_true, true_and, reduceIte, reduceCtorEq, eq_self, implies_true, forall_const, false_implies, imp_self, decide_true, decide_false, fix_nil, fix_cons, t0, t1, t5, lv]
  have : xs = ys := List.ext_getElem (by omega) fun i h1 h2 => by
    have := he i h1
    rwa [getD_get _ _ h1, getD_get _ _ h2] at this
  exact ⟨Keep.refl _, by rw [decide_eq_true this]⟩
theorem unS_pair {xs : List Int} {i : Nat} (h : i + 1 < xs.length) (hc : xs.getD i 0 = 125) : unS (xs.drop i) = xorI .u8 (xs.getD (i + 1) 0) 32 :: unS (xs.drop (i + 2)) := by
  rw [List.drop_eq_getElem_cons (by omega : i < xs.length), List.drop_eq_getElem_cons h, ← getD_get _ 0 (by omega : i < xs.length), ← getD_get _ 0 h, unS, if_pos hc]
theorem unS_one {xs : List Int} {i : Nat} (h : i + 1 < xs.length) (hc : ¬ xs.getD i 0 = 125) : unS (xs.drop i) = xs.getD i 0 :: unS (xs.drop (i + 1)) := by
  rw [List.drop_eq_getElem_cons (by omega : i < xs.length), List.drop_eq_getElem_cons h, ← getD_get _ 0 (by omega : i < xs.length), ← getD_get _ 0 h, unS, if_neg hc]
theorem unS_end {xs : List Int} {i : Nat} (h : ¬ i + 1 < xs.length) : unS (xs.drop i) = [] := by
  by_cases c : i < xs.length
  · rw [List.drop_eq_getElem_cons c, List.drop_eq_nil_of_le (by omega)]; rfl
  · rw [List.drop_eq_nil_of_le (by omega)]; rfl
theorem unS_len : ∀ xs : List Int, (unS xs).length ≤ xs.length
  | [] => Nat.le_refl _
  | [x] => Nat.zero_le _
  | x :: y :: xs => by
    rw [unS]
    split
    · have := unS_len xs
      simp only [List.length_cons]; omega
    · have := unS_len (y :: xs)
      simp only [List.length_cons] at this ⊢; omega
theorem r_spec_Decode {H : Heap} {v : Value} {d : List Int} (h : Bts H v d) (hl : d.length ≤ 1048576) (hd : ∀ x ∈ d, isB x) : Run Tryd.prog 33 [v] H fun r H' => Keep H H' ∧ DecV H H' r (decS d) := by
  have lv := fun H1 : Heap => IntsK.len_ (H1 := H1) h
  obtain ⟨b, hb⟩ : ∃ b, b = unS (d.drop 1) := ⟨_, rfl⟩
  have hdI : decS d = if d.length ≤ 140 ∧ 4 ≤ b.length ∧ okT (telL b) = true ∧ encR (telL b).1 (telL b).2.1 (telL b).2.2 = d then (telL b, true) else (telZ, false) := by rw [hb]; rfl
  refine Run.intro c33 rfl ?_
  simp (maxSteps := 4000000) (disch := omega) only [Zq, evO, vbox, wr, Zeq, if_true, if_false, Nat.reduceEqDiff, Nat.reduceAdd, Nat.reduceLeDiff, Nat.reduceSub, and_self, and_true, true_and, reduceIte, reduceCtorEq, eq_self, implies_true, forall_const, false_implies, imp_self, decide_true, decide_false, x33, lv]
  generalize hG1 : H.push [.int .i64 0, .int .i64 0, .slice none 0 0] = H1
  have k1 : Keep H H1 := by rw [← hG1]; exact Keep.push _ _
  have n1 : H1.nxt = H.nxt + 1 := by rw [← hG1, Zbg]
  have g1 : H1.get H.nxt = some (.own [.int .i64 0, .int .i64 0, .slice none 0 0]) := by rw [← hG1, push_get', if_pos rfl]
  clear hG1
  have no : ∀ H2, Keep H H2 → Keep H (H2.set H.nxt [.int .i64 0, .int .i64 0, .slice none 0 0]) := fun H2 k => k.set' (Nat.le_refl _)
  by_cases c1 : (140 : Int) < d.length
  · rw [if_neg (fun hh => by omega)] at hdI
    simp (maxSteps := 4000000) (disch := omega) only [Zq, evO, vbox, wr, Zeq, if_true, if_false, Nat.reduceEqDiff, Nat.reduceAdd, Nat.reduceLeDiff, Nat.reduceSub, and_self, and_true, true_and, reduceIte, reduceCtorEq, eq_self, implies_true, forall_const, false_implies, imp_self, decide_true, decide_false, fix_nil, fix_cons, g1, lv, Zfh c1]
    exact ⟨no _ k1, by rw [hdI]; exact decV_no⟩
  simp (maxSteps := 4000000) (disch := omega) only [Zq, evO, vbox, wr, Zeq, if_true, if_false, Nat.reduceEqDiff, Nat.reduceAdd, Nat.reduceLeDiff, Nat.reduceSub, and_self, and_true, true_and, reduceIte, reduceCtorEq, eq_self, implies_true, forall_const, false_implies, imp_self, decide_true, decide_false, fix_nil, fix_cons, g1, lv, Zfi c1]
  generalize hG2 : H1.push [] = H2
  have k2 : Keep H1 H2 := by rw [← hG2]; exact Keep.push _ _
  have n2 : H2.nxt = H1.nxt + 1 := by rw [← hG2, Zbg]
  have o2 : NewB H1 H2 (.slice (some ⟨H1.nxt, 0, none⟩) 0 1) [] := by rw [← hG2]; exact NewF.new (Keep.refl _)
  have g2 := (k2.get H.nxt (by omega)).trans g1
  clear hG2
  have hwl : IntKind.i64.wrap ((d.length : Int) - 1) = (d.length : Int) - 1 := wrap64 (by omega) (by omega)
  refine G_loopF [0, 2] (d.length) (fun k T H3 => ∃ (i : Nat) (w : Value) (out : List Int), T 5 = .int .i64 (i : Int) ∧ T 4 = w ∧ Keep H1 H3 ∧ NewB H1 H3 w out ∧ b = out ++ unS (d.drop i) ∧ 1 ≤ i ∧ i ≤ d.length + 1 ∧ k = d.length + 1 - i ∧ out.length ≤ i) ?_ ?_
  · simp (maxSteps := 4000000) (disch := omega) only [Zq, evO, vbox, wr, Zeq, if_true, if_false, Nat.reduceEqDiff, Nat.reduceAdd, Nat.reduceLeDiff, Nat.reduceSub, and_self, and_true, true_and, reduceIte, reduceCtorEq, eq_self, implies_true, forall_const, false_implies, imp_self, decide_true, decide_false, fix_nil, fix_cons, g1, g2]
    exact ⟨1, _, [], rfl, rfl, k2, o2, by rw [hb]; rfl, by omega, by omega, by omega, by simp⟩
  rintro k T H3 hT ⟨i, w, out, t5, t4, k3, o3, hu, hi1, hi, hk, hol⟩
  simp only [fix_nil, fix_cons, Zq, evO, vbox, wr, Zeq, if_true, if_false, Nat.reduceEqDiff, Nat.reduceAdd, Nat.reduceLeDiff, Nat.reduceSub, and_self, and_true, true_and, reduceIte, reduceCtorEq, eq_self, implies_true, forall_const, false_implies, imp_self, decide_true, decide_false] at hT
  obtain ⟨t0, t2⟩ := hT
  have k03 := k1.trans k3
  have h3 := IntsK.keep h k03
  have n3 := k3.nxt
  by_cases c2 : (i : Int) < (d.length : Int) - 1
  · have hin : i + 1 < d.length := by omega
    have ix := fun H0 : Heap => IntsK.idx (k' := .i64) (H1 := H0) h3 (by omega : i < d.length)
    have ld := IntsK.ld h3 (by omega : i < d.length)
    have hw1 : IntKind.i64.wrap ((i : Int) + 1) = ((i + 1 : Nat) : Int) := by rw [wrap64 (by omega) (by omega)]; omega
    have hw2 : IntKind.i64.wrap (((i + 1 : Nat) : Int) + 1) = ((i + 2 : Nat) : Int) := by rw [wrap64 (by omega) (by omega)]; omega
    by_cases c3 : d.getD i 0 = 125
    · have ix2 := fun H0 : Heap => IntsK.idx (k' := .i64) (H1 := H0) h3 hin
      have ld2 := IntsK.ld h3 hin
      obtain ⟨u, H4, e4, o4, kk4, n4⟩ := NewF.one (bytes := 1) (y := xorI .u8 (d.getD (i + 1) 0) 32) (fZ_len .u8) (by omega) o3 (by omega)
      simp only [fZ] at e4
      simp (maxSteps := 4000000) (disch := omega) only [Zq, evO, vbox, wr, Zeq, if_true, if_false, Nat.reduceEqDiff, Nat.reduceAdd, Nat.reduceLeDiff, Nat.reduceSub, and_self, and_true, true_and, reduceIte, reduceCtorEq, eq_self, implies_true, forall_const, false_implies, imp_self, decide_true, decide_false, fix_nil, fix_cons, g1, g2, t0, t2, t5, t4, lv, hwl, Zfh c2, ix, ld, hw1, Zfl c3, ix2, ld2, abin_xor, Zff, e4, hw2]
      refine ⟨d.length + 1 - (i + 2), by omega, i + 2, u, _, rfl, rfl, kk4 H1 (Nat.le_refl _) k3, o4, ?_, by omega, by omega, rfl, by simp; omega⟩
      rw [hu, unS_pair hin c3, List.append_assoc]; rfl
    · obtain ⟨u, H4, e4, o4, kk4, n4⟩ := NewF.one (bytes := 1) (y := d.getD i 0) (fZ_len .u8) (by omega) o3 (by omega)
      simp only [fZ] at e4
      simp (maxSteps := 4000000) (disch := omega) only [Zq, evO, vbox, wr, Zeq, if_true, if_false, Nat.reduceEqDiff, Nat.reduceAdd, Nat.reduceLeDiff, Nat.reduceSub, and_self, and_true, true_and, reduceIte, reduceCtorEq, eq_self, implies_true, forall_const, false_implies, imp_self, decide_true, decide_false, fix_nil, fix_cons, g1, g2, t0, t2, t5, t4, lv, hwl, Zfh c2, ix, ld, Zfm c3, Zff, e4, hw1]
      refine ⟨d.length + 1 - (i + 1), by omega, i + 1, u, _, rfl, rfl, kk4 H1 (Nat.le_refl _) k3, o4, ?_, by omega, by omega, rfl, by simp; omega⟩
      rw [hu, unS_one hin c3, List.append_assoc]; rfl
  rw [unS_end (by omega), List.append_nil] at hu
  subst hu
  have hz : Bts H3 w b := by
    have := o3.sl (fZ_len .u8)
    rw [fcZ] at this
    exact this
  have lz := fun H1 : Heap => IntsK.len_ (H1 := H1) hz
  have g3 := (k3.get H.nxt (by omega)).trans g1
  have hbB : ∀ x ∈ b, isB x := by
    rw [hb]
    exact unS_isB (fun y hy => hd y (List.mem_of_mem_drop hy))
  have hbl : b.length ≤ 1000 := by
    have := unS_len (d.drop 1)
    rw [← hb, List.length_drop] at this
    omega
  by_cases c3 : (b.length : Int) < 4
  · rw [if_neg (fun hh => by omega)] at hdI
    simp (maxSteps := 4000000) (disch := omega) only [Zq, evO, vbox, wr, Zeq, if_true, if_false, Nat.reduceEqDiff, Nat.reduceAdd, Nat.reduceLeDiff, Nat.reduceSub, and_self, and_true, true_and, reduceIte, reduceCtorEq, eq_self, implies_true, forall_const, false_implies, imp_self, decide_true, decide_false, fix_nil, fix_cons, g1, g2, t0, t2, t5, t4, g3, lv, hwl, Zfi c2, lz, Zfh c3]
    exact ⟨no _ k03, by rw [hdI]; exact decV_no⟩
  have ix0 : ∀ H0 : Heap, vidx H0 1 w (.int .i64 0) = some (adr w 0 1 0, H0) := fun H0 => IntsK.idx (k' := .i64) (H1 := H0) (i := 0) hz (by omega)
  have ix1 : ∀ H0 : Heap, vidx H0 1 w (.int .i64 1) = some (adr w 1 1 0, H0) := fun H0 => IntsK.idx (k' := .i64) (H1 := H0) (i := 1) hz (by omega)
  have ld0 := IntsK.ld hz (by omega : 0 < b.length)
  have ld1 := IntsK.ld hz (by omega : 1 < b.length)
  have b0 := hbB (b.getD 0 0) (by rw [getD_get _ _ (by omega)]; exact List.getElem_mem _)
  have b1 := hbB (b.getD 1 0) (by rw [getD_get _ _ (by omega)]; exact List.getElem_mem _)
  have hwA : IntKind.i64.wrap (b.getD 0 0) = b.getD 0 0 := wrap64 (by have := b0.1; omega) (by have := b0.2; omega)
  have hwB : IntKind.i64.wrap (b.getD 1 0) = b.getD 1 0 := wrap64 (by have := b1.1; omega) (by have := b1.2; omega)
  have hwb : IntKind.i64.wrap ((b.length : Int) - 1) = (b.length : Int) - 1 := wrap64 (by omega) (by omega)
  have tx0 : ∀ ix : Nat, trL ix (adr w 0 1 0) = [.L ix (blk w)] := fun ix => Sl.trL hz (by omega)
  have tx1 : ∀ ix : Nat, trL ix (adr w 1 1 0) = [.L ix (blk w)] := fun ix => Sl.trL hz (by omega)
  have bz := Sl.blk_lt hz (by omega : 0 < b.length)
  simp (maxSteps := 4000000) (disch := omega) only [Zq, evO, vbox, wr, Zeq, if_true, if_false, Nat.reduceEqDiff, Nat.reduceAdd, Nat.reduceLeDiff, Nat.reduceSub, and_self, and_true, true_and, reduceIte, reduceCtorEq, eq_self, implies_true, forall_const, false_implies, imp_self, decide_true, decide_false, fix_nil, fix_cons, g1, g2, t0, t2, t5, t4, g3, lv, hwl, Zfi c2, lz, Zfi c3]
  simp (maxSteps := 4000000) (disch := omega) only [ZD, Zio, Zip, pre_, beq_self_eq_true, Nat.reduceBEq, Zq, evO, vbox, wr, Zeq, if_true, if_false, Nat.reduceEqDiff, Nat.reduceAdd, Nat.reduceLeDiff, Nat.reduceSub, and_self, and_true, true_and, reduceIte, reduceCtorEq, eq_self, implies_true, forall_const, false_implies, imp_self, decide_true, decide_false, fix_nil, fix_cons, g1, g2, t0, t2, t5, t4, g3, G_dreg, ix0, ld0, tx0, ix1, ld1, tx1, hwA, hwB]
  first | with_reducible refine And.intro (by repeat' (first | apply And.intro | omega)) ?_ | skip
  generalize hG4 : (H3.push [.int .i64 0, .int .i64 0, .slice none 0 0]).set H3.nxt [.int .i64 (b.getD 0 0), .int .i64 (b.getD 1 0), .slice none 0 0] = H4
  have k4 : Keep H3 H4 := by rw [← hG4]; repeat' (first | exact Keep.refl _ | assumption | refine Keep.push' ?_ | refine Keep.set' ?_ ?_ | refine Keep.moved' ?_ ?_ | omega)
  have g4 : H4.get H3.nxt = some (.own [.int .i64 (b.getD 0 0), .int .i64 (b.getD 1 0), .slice none 0 0]) := by rw [← hG4, Zbi, if_pos rfl]
  have n4 : H4.nxt = H3.nxt + 1 := by rw [← hG4, Zbh, Zbg]
  have g4n := (k4.get H.nxt (by omega)).trans g3
  have hq4 := g4
  clear g4
  refine G_forF [0, 2, 4, 6] ((b.length - 4)) (fun i T H5 => T 7 = .int .i64 ((i + 3 : Nat) : Int) ∧ Chg [H3.nxt] H4 H5 ∧ ∃ u F, H5.get H3.nxt = some (.own [.int .i64 (b.getD 0 0), .int .i64 (b.getD 1 0), u]) ∧ (rSlc rByte).own H5 [u] ((b.drop 3).take i) F ∧ F.Nodup ∧ ∀ a ∈ F, H4.nxt ≤ a) 0 (Nat.zero_le _) ?_ ?_
  · simp (maxSteps := 4000000) (disch := omega) only [Zq, evO, vbox, wr, Zeq, if_true, if_false, Nat.reduceEqDiff, Nat.reduceAdd, Nat.reduceLeDiff, Nat.reduceSub, and_self, and_true, true_and, reduceIte, reduceCtorEq, eq_self, implies_true, forall_const, false_implies, imp_self, decide_true, decide_false, fix_nil, fix_cons, g1, g2, t0, t2, t5, t4, g3, g4n]
    exact ⟨rfl, Chg.refl _ _, _, [], hq4, .inl ⟨rfl, rfl, rfl⟩, by simp, by simp⟩
  rintro i T H5 hi hT ⟨t7, c5, u, F, g5, o5, nd5, f5⟩
  simp only [fix_nil, fix_cons, Zq, evO, vbox, wr, Zeq, if_true, if_false, Nat.reduceEqDiff, Nat.reduceAdd, Nat.reduceLeDiff, Nat.reduceSub, and_self, and_true, true_and, reduceIte, reduceCtorEq, eq_self, implies_true, forall_const, false_implies, imp_self, decide_true, decide_false, t0, t2, t5, t4] at hT
  obtain ⟨t0, t2, t4, t6⟩ := hT
  have n5 := c5.nxt
  have g5n := (c5.get H.nxt (by omega) (by simp; omega)).trans g4n
  by_cases c4 : ((i + 3 : Nat) : Int) < (b.length : Int) - 1
  · have h5 : Bts H5 w b := Sl.agree (IntsK.keep hz k4) n5 (c5.get _ (by omega) (by simp; omega))
    have ixb := fun H0 : Heap => IntsK.idx (k' := .i64) (H1 := H0) h5 (by omega : i + 3 < b.length)
    have ldb := IntsK.ld h5 (by omega : i + 3 < b.length)
    have txb : ∀ ix : Nat, trL ix (adr w (i + 3) 1 0) = [.L ix (blk w)] := fun ix => Sl.trL h5 (by omega)
    obtain ⟨u6, H6, F6, e6, o6, c6, f6, nd6, _⟩ := own_app (bytes := 1) (r := rByte) (sz := 1) rfl (by omega) o5 (row := [.int .u8 (b.getD (i + 3) 0)]) (y := b.getD (i + 3) 0) (G := []) ⟨rfl, rfl⟩ nd5 (by simp) (by simp) (by rw [List.length_take, List.length_drop]; omega)
    have n6 := c6.nxt
    have f6' : ∀ a ∈ F6, H4.nxt ≤ a := fun a ha => by
      rcases f6 a ha with h | h | h
      · exact f5 a h
      · cases h
      · omega
    have old6 : ∀ a, a < H4.nxt → H6.get a = H5.get a := fun a ha => c6.get a (by omega) (fun h => by have := f5 a h; omega)
    have g6 := (old6 H3.nxt (by omega)).trans g5
    obtain ⟨x1, x2⟩ := slc_cell ((rSlc rByte).ownrd o6)
    have hw3 : IntKind.i64.wrap (((i + 3 : Nat) : Int) + 1) = ((i + 1 + 3 : Nat) : Int) := by rw [wrap64 (by omega) (by omega)]; omega
    have htk : (b.drop 3).take i ++ [b.getD (i + 3) 0] = (b.drop 3).take (i + 1) := by
      rw [take_snoc (b.drop 3) 0 (by rw [List.length_drop]; omega)]
      congr 2
      rw [List.getD_eq_getElem?_getD, List.getD_eq_getElem?_getD, List.getElem?_drop, Nat.add_comm]
    rw [htk] at o6
    simp (maxSteps := 4000000) (disch := omega) only [Zq, evO, vbox, wr, Zeq, if_true, if_false, Nat.reduceEqDiff, Nat.reduceAdd, Nat.reduceLeDiff, Nat.reduceSub, and_self, and_true, true_and, reduceIte, reduceCtorEq, eq_self, implies_true, forall_const, false_implies, imp_self, decide_true, decide_false, fix_nil, fix_cons, g1, g2, t0, t2, t5, t4, g3, g4n, t6, t7, g5, g5n, g6, lz, hwb, Zfh c4]
    simp (maxSteps := 4000000) (disch := omega) only [ZD, Zio, Zip, pre_, beq_self_eq_true, Nat.reduceBEq, Zq, evO, vbox, wr, Zeq, if_true, if_false, Nat.reduceEqDiff, Nat.reduceAdd, Nat.reduceLeDiff, Nat.reduceSub, and_self, and_true, true_and, reduceIte, reduceCtorEq, eq_self, implies_true, forall_const, false_implies, imp_self, decide_true, decide_false, fix_nil, fix_cons, g1, g2, t0, t2, t5, t4, g3, g4n, t6, t7, g5, g5n, g6, G_dreg, ixb, ldb, txb, GD_app, e6, x1, x2]
    first | with_reducible refine And.intro (by repeat' (first | apply And.intro | omega | exact old6 _ (by omega))) ?_ | skip
    exact ⟨by omega, ⟨by rw [Zbh]; omega, fun a ha hm => by rw [Zbi, if_neg (by simpa using hm), old6 a ha, c5.get a ha hm]⟩, u6, F6, rfl, (rSlc rByte).ownk o6 (by rw [Zbh]; exact Nat.le_refl _) (fun a ha => by rw [Zbi, if_neg (by have := f6' a ha; omega)]), nd6, f6'⟩
  obtain rfl : i = b.length - 4 := by omega
  have k05 : Keep H H5 := (c5.keep (k03.trans k4)) (fun a ha => by simp at ha; omega)
  have hu5 : Bts H5 u ((b.drop 3).take (b.length - 4)) := bts_of ((rSlc rByte).ownrd o5)
  obtain ⟨u1, u2⟩ := slc_cell ((rSlc rByte).ownrd o5)
  have htl : telL b = (b.getD 0 0, b.getD 1 0, (b.drop 3).take (b.length - 4)) := rfl
  have hokT : okT (telL b) = okTel (b.getD 0 0) (b.getD 1 0) ((b.drop 3).take (b.length - 4)).length := rfl
  have hbody : ∀ x ∈ (b.drop 3).take (b.length - 4), isB x := fun x hx => hbB x (List.mem_of_mem_drop (List.mem_of_mem_take hx))
  simp (maxSteps := 4000000) (disch := omega) only [Zq, evO, vbox, wr, Zeq, if_true, if_false, Nat.reduceEqDiff, Nat.reduceAdd, Nat.reduceLeDiff, Nat.reduceSub, and_self, and_true, true_and, reduceIte, reduceCtorEq, eq_self, implies_true, forall_const, false_implies, imp_self, decide_true, decide_false, fix_nil, fix_cons, g1, g2, t0, t2, t5, t4, g3, g4n, t6, t7, g5, g5n, lz, hwb, Zfi c4, u1, u2]
  refine GO_call ((r_spec_TelegramOk (a := b.getD 0 0) (b := b.getD 1 0) (of_bts hu5)).mono ?_)
  rintro _ H6 ⟨k6, rfl⟩
  have n6 := k6.nxt
  have g6 := (k6.get (H3.nxt) (by omega)).trans g5
  have g6n := (k6.get (H.nxt) (by omega)).trans g5n
  have k06 : Keep H H6 := k05.trans k6
  cases c7 : okTel (b.getD 0 0) (b.getD 1 0) ((b.drop 3).take (b.length - 4)).length with
  | false =>
    rw [hokT, c7, if_neg (fun hh => by cases hh.2.2.1)] at hdI
    simp (maxSteps := 4000000) (disch := omega) only [Zq, evO, vbox, wr, Zeq, if_true, if_false, Nat.reduceEqDiff, Nat.reduceAdd, Nat.reduceLeDiff, Nat.reduceSub, and_self, and_true, true_and, reduceIte, reduceCtorEq, eq_self, implies_true, forall_const, false_implies, imp_self, decide_true, decide_false, fix_nil, fix_cons, g1, g2, t0, t2, t5, t4, g3, g4n, t6, t7, g5, g5n, g6, g6n]
    exact ⟨no _ k06, by rw [hdI]; exact decV_no⟩
  | true =>
  simp (maxSteps := 4000000) (disch := omega) only [Zq, evO, vbox, wr, Zeq, if_true, if_false, Nat.reduceEqDiff, Nat.reduceAdd, Nat.reduceLeDiff, Nat.reduceSub, and_self, and_true, true_and, reduceIte, reduceCtorEq, eq_self, implies_true, forall_const, false_implies, imp_self, decide_true, decide_false, fix_nil, fix_cons, g1, g2, t0, t2, t5, t4, g3, g4n, t6, t7, g5, g5n, g6, g6n]
  refine GO_call ((r_spec_Encode (a := b.getD 0 0) (b := b.getD 1 0) (IntsK.keep hu5 k6) (by rw [List.length_take, List.length_drop]; omega)).mono ?_)
  rintro y H7 ⟨k7, oy⟩
  have n7 := k7.nxt
  have g7 := (k7.get (H3.nxt) (by omega)).trans g6
  have g7n := (k7.get (H.nxt) (by omega)).trans g6n
  have hy7 : Bts H7 y (encR (b.getD 0 0) (b.getD 1 0) ((b.drop 3).take (b.length - 4))) := by
    obtain ⟨F, hF, _⟩ := oy
    exact bts_of ((rSlc rByte).ownrd hF)
  simp (maxSteps := 4000000) (disch := omega) only [Zq, evO, vbox, wr, Zeq, if_true, if_false, Nat.reduceEqDiff, Nat.reduceAdd, Nat.reduceLeDiff, Nat.reduceSub, and_self, and_true, true_and, reduceIte, reduceCtorEq, eq_self, implies_true, forall_const, false_implies, imp_self, decide_true, decide_false, fix_nil, fix_cons, g1, g2, t0, t2, t5, t4, g3, g4n, t6, t7, g5, g5n, g6, g6n, g7, g7n]
  refine GO_call ((r_spec_l20Same hy7 (IntsK.keep h (k06.trans k7)) (by have := encR_len (b.getD 0 0) (b.getD 1 0) ((b.drop 3).take (b.length - 4)); omega) (by omega)).mono ?_)
  rintro _ H8 ⟨k8, rfl⟩
  have n8 := k8.nxt
  have g8 := (k8.get (H3.nxt) (by omega)).trans g7
  have g8n := (k8.get (H.nxt) (by omega)).trans g7n
  have k08 := k06.trans (k7.trans k8)
  by_cases c8 : encR (b.getD 0 0) (b.getD 1 0) ((b.drop 3).take (b.length - 4)) = d
  rotate_left
  · rw [decide_eq_false c8]
    rw [if_neg (fun hh => c8 hh.2.2.2)] at hdI
    simp (maxSteps := 4000000) (disch := omega) only [Zq, evO, vbox, wr, Zeq, if_true, if_false, Nat.reduceEqDiff, Nat.reduceAdd, Nat.reduceLeDiff, Nat.reduceSub, and_self, and_true, true_and, reduceIte, reduceCtorEq, eq_self, implies_true, forall_const, false_implies, imp_self, decide_true, decide_false, fix_nil, fix_cons, g1, g2, t0, t2, t5, t4, g3, g4n, t6, t7, g5, g5n, g6, g6n, g7, g7n, g8, g8n]
    exact ⟨no _ k08, by rw [hdI]; exact decV_no⟩
  rw [decide_eq_true c8]
  rw [if_pos ⟨by omega, by omega, by rw [hokT, c7], c8⟩] at hdI
  simp (maxSteps := 4000000) (disch := omega) only [Zq, evO, vbox, wr, Zeq, if_true, if_false, Nat.reduceEqDiff, Nat.reduceAdd, Nat.reduceLeDiff, Nat.reduceSub, and_self, and_true, true_and, reduceIte, reduceCtorEq, eq_self, implies_true, forall_const, false_implies, imp_self, decide_true, decide_false, fix_nil, fix_cons, g1, g2, t0, t2, t5, t4, g3, g4n, t6, t7, g5, g5n, g6, g6n, g7, g7n, g8, g8n, u1, u2]
  refine ⟨k08.set' (Nat.le_refl _), ?_⟩
  rw [hdI, htl]
  have hlt5 := (rSlc rByte).ownlt o5
  have hn8 := (k6.trans (k7.trans k8)).nxt
  have o8 := (rSlc rByte).ownKeep o5 (k6.trans (k7.trans k8))
  refine ⟨u, F, rfl, (rSlc rByte).ownk o8 (by rw [Zbh]; exact Nat.le_refl _) (fun a ha => by rw [Zbi, if_neg (by have := f5 a ha; omega)]), nd5, fun a ha => ⟨by have := f5 a ha; omega, by rw [Zbh]; have := hlt5 a ha; omega⟩⟩
end Go.Proofs.YtiajbefljkikiaaDoor.AX
