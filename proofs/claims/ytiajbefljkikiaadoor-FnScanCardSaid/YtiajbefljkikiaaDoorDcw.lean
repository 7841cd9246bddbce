/- Telegrams read back: the program's walk. No condition beyond each law's own; of the program: the functions' forms. -/
import Derived.Test.YtiajbefljkikiaaDoorDcp
namespace Go.Proofs.YtiajbefljkikiaaDoor.AX
open Go
set_option maxRecDepth 10000
set_option maxHeartbeats 4000000
set_option linter.unusedSimpArgs false
set_option linter.unusedVariables false
theorem byteVs_map : ∀ xs : List Int, byteVs (xs.map (Value.int .u8)) = some xs
  | [] => rfl
  | x :: xs => by rw [List.map_cons, byteVs, byteVs_map xs]; rfl
theorem bts_str {H : Heap} {v : Value} {xs : List Int} (h : Bts H v xs) : vb2s H v = some (.string (strOfNums xs), H) := by
  have key : byts H v = some (strOfNums xs) := by
    by_cases h0 : 0 < xs.length
    · obtain ⟨b, o, rfl, hb, _⟩ := Sl.some_ h h0
      obtain ⟨ob, e1, e2, e3⟩ := Sl.seg h (by omega)
      simp only [byts]
      rw [if_neg (by omega), e1]
      simp only []
      rw [if_pos ⟨trivial, by omega⟩]
      rw [Nat.mul_one] at e3
      rw [e3, byteVs_map]
      rfl
    · have : xs = [] := List.length_eq_zero_iff.1 (by omega)
      subst this
      rcases h.2 with ⟨rfl, _⟩ | ⟨i, o, rfl, _⟩
      · rfl
      · rfl
  rw [vb2s, key]
  rfl
theorem nums_back : ∀ {xs : List Int}, (∀ x ∈ xs, isB x) → (xs.map fun n => UInt8.ofNat n.toNat).map (fun b => (b.toNat : Int)) = xs
  | [], _ => rfl
  | x :: xs, h => by
    have hx := h x (by simp)
    rw [List.map_cons, List.map_cons, nums_back (xs := xs) (fun y hy => h y (by simp [hy]))]
    congr 1
    have : (UInt8.ofNat x.toNat).toNat = x.toNat := by
      have := hx.1
      have := hx.2
      simp
      omega
    rw [this]
    have := hx.1
    omega
theorem strB_eq {xs ys : List Int} (hx : ∀ x ∈ xs, isB x) (hy : ∀ x ∈ ys, isB x) : ((strOfNums xs).toList == (strOfNums ys).toList) = decide (xs = ys) := by
  have e : ∀ zs : List Int, (strOfNums zs).toList = zs.map fun n => UInt8.ofNat n.toNat := fun zs => by
    rw [ByteArray.toList_eq, strOfNums]
  rw [e, e]
  by_cases c : xs = ys
  · subst c; simp
  · rw [decide_eq_false c, beq_eq_false_iff_ne]
    intro h
    have := congrArg (List.map fun b : UInt8 => (b.toNat : Int)) h
    rw [nums_back hx, nums_back hy] at this
    exact c this
theorem abin_seqB {s t : ByteArray} : abin .eql (.string s) (.string t) = some (.bool (s.toList == t.toList)) := nofl rfl
theorem r_bytes_Equal {H : Heap} {v w : Value} {xs ys : List Int} (hv : Bts H v xs) (hw : Bts H w ys) (hx : ∀ x ∈ xs, isB x) (hy : ∀ x ∈ ys, isB x) : Run Tryd.prog 30 [v, w] H fun r H' => Keep H H' ∧ r = .bool (decide (xs = ys)) := by
  refine Run.intro c30 rfl ?_
  simp (maxSteps := 4000000) (disch := omega) only [Zq, evO, vbox, wr, Zeq, if_true, if_false, Nat.reduceEqDiff, Nat.reduceAdd, Nat.reduceLeDiff, Nat.reduceSub, and_self, and_true, true_and, reduceIte, reduceCtorEq, eq_self, implies_true, forall_const, false_implies, imp_self, decide_true, decide_false, x30, GO_b2s, bts_str hv, bts_str hw, abin_seqB]
  exact ⟨Keep.refl _, by rw [strB_eq hx hy]⟩
theorem unI_last {xs : List Int} {i : Nat} (h : i < xs.length) (hc : ¬ (xs.getD i 0 = 125 ∧ i + 1 < xs.length)) : unI (xs.drop i) = xs.getD i 0 :: unI (xs.drop (i + 1)) := by
  rw [List.drop_eq_getElem_cons h, getD_get _ _ h]
  by_cases c : i + 1 < xs.length
  · rw [unI_cons (fun e => hc ⟨by rw [getD_get _ _ h]; exact e, c⟩)]
  · rw [List.drop_eq_nil_of_le (by omega)]; rfl
theorem unI_pair {xs : List Int} {i : Nat} (h : i + 1 < xs.length) (hc : xs.getD i 0 = 125) : unI (xs.drop i) = xorI .u8 (xs.getD (i + 1) 0) 32 :: unI (xs.drop (i + 2)) := by
  rw [List.drop_eq_getElem_cons (by omega : i < xs.length), List.drop_eq_getElem_cons h, ← getD_get _ 0 (by omega : i < xs.length), ← getD_get _ 0 h, unI, if_pos hc]
theorem r_impl_unescape {H : Heap} {v : Value} {xs : List Int} (h : Bts H v xs) (hl : xs.length ≤ 1000) : Run Tryd.prog 29 [v] H fun r H' => Keep H H' ∧ NewB H H' r (unI xs) := by
  have lv := fun H1 : Heap => IntsK.len_ (H1 := H1) h
  refine Run.intro c29 rfl ?_
  simp (maxSteps := 4000000) (disch := omega) only [Zq, evO, vbox, wr, Zeq, if_true, if_false, Nat.reduceEqDiff, Nat.reduceAdd, Nat.reduceLeDiff, Nat.reduceSub, and_self, and_true, true_and, reduceIte, reduceCtorEq, eq_self, implies_true, forall_const, false_implies, imp_self, decide_true, decide_false, x29]
  generalize hG1 : H.push [] = H1
  have k1 : Keep H H1 := by rw [← hG1]; exact Keep.push _ _
  have o1 : NewB H H1 (.slice (some ⟨H.nxt, 0, none⟩) 0 1) [] := by rw [← hG1]; exact NewF.new (Keep.refl _)
  clear hG1
  refine G_loopF [0] (xs.length) (fun k T H2 => ∃ (i : Nat) (w : Value) (out : List Int), T 4 = .int .i64 (i : Int) ∧ T 3 = w ∧ Keep H H2 ∧ NewB H H2 w out ∧ unI xs = out ++ unI (xs.drop i) ∧ i ≤ xs.length ∧ k = xs.length - i ∧ out.length ≤ i) ?_ ?_
  · simp (maxSteps := 4000000) (disch := omega) only [Zq, evO, vbox, wr, Zeq, if_true, if_false, Nat.reduceEqDiff, Nat.reduceAdd, Nat.reduceLeDiff, Nat.reduceSub, and_self, and_true, true_and, reduceIte, reduceCtorEq, eq_self, implies_true, forall_const, false_implies, imp_self, decide_true, decide_false, fix_nil, fix_cons]
    exact ⟨0, _, [], rfl, rfl, k1, o1, by simp, by omega, by omega, by simp⟩
  rintro k T H2 hT ⟨i, w, out, t4, t3, k2, o2, hu, hi, hk, hol⟩
  simp only [fix_nil, fix_cons, Zq, evO, vbox, wr, Zeq, if_true, if_false, Nat.reduceEqDiff, Nat.reduceAdd, Nat.reduceLeDiff, Nat.reduceSub, and_self, and_true, true_and, reduceIte, reduceCtorEq, eq_self, implies_true, forall_const, false_implies, imp_self, decide_true, decide_false] at hT
  have t0 := hT
  by_cases hin : i < xs.length
  rotate_left
  · obtain rfl : i = xs.length := by omega
    have x1 := Sl.noTup_ (o2.sl (fZ_len .u8))
    have x2 := Sl.cells_ (o2.sl (fZ_len .u8))
    simp (maxSteps := 4000000) (disch := omega) only [Zq, evO, vbox, wr, Zeq, if_true, if_false, Nat.reduceEqDiff, Nat.reduceAdd, Nat.reduceLeDiff, Nat.reduceSub, and_self, and_true, true_and, reduceIte, reduceCtorEq, eq_self, implies_true, forall_const, false_implies, imp_self, decide_true, decide_false, fix_nil, fix_cons, t0, t4, t3, lv, x1, x2]
    rw [List.drop_length, unI, List.append_nil] at hu
    exact ⟨k2, by rw [hu]; exact o2⟩
  have h2 := IntsK.keep h k2
  have ix := fun H0 : Heap => IntsK.idx (k' := .i64) (H1 := H0) h2 hin
  have ld := IntsK.ld h2 hin
  have hw1 : IntKind.i64.wrap ((i : Int) + 1) = ((i + 1 : Nat) : Int) := by rw [wrap64 (by omega) (by omega)]; omega
  have hw2 : IntKind.i64.wrap (((i + 1 : Nat) : Int) + 1) = ((i + 2 : Nat) : Int) := by rw [wrap64 (by omega) (by omega)]; omega
  by_cases c1 : xs.getD i 0 = 125
  · by_cases c2 : ((i + 1 : Nat) : Int) < xs.length
    · have hin2 : i + 1 < xs.length := by omega
      have ix2 := fun H0 : Heap => IntsK.idx (k' := .i64) (H1 := H0) h2 hin2
      have ld2 := IntsK.ld h2 hin2
      obtain ⟨u, H3, e3, o3, kk3, n3⟩ := NewF.one (bytes := 1) (y := xorI .u8 (xs.getD (i + 1) 0) 32) (fZ_len .u8) (by omega) o2 (by omega)
      simp only [fZ] at e3
      simp (maxSteps := 4000000) (disch := omega) only [Zq, evO, vbox, wr, Zeq, if_true, if_false, Nat.reduceEqDiff, Nat.reduceAdd, Nat.reduceLeDiff, Nat.reduceSub, and_self, and_true, true_and, reduceIte, reduceCtorEq, eq_self, implies_true, forall_const, false_implies, imp_self, decide_true, decide_false, fix_nil, fix_cons, t0, t4, t3, lv, ix, ld, hw1, Zfl c1, Zfh c2, ix2, ld2, abin_xor, Zff, e3, hw2]
      refine ⟨xs.length - (i + 2), by omega, i + 2, u, _, rfl, rfl, kk3 H (Nat.le_refl _) k2, o3, ?_, by omega, rfl, by simp; omega⟩
      rw [hu, unI_pair hin2 c1, List.append_assoc]; rfl
    · obtain ⟨u, H3, e3, o3, kk3, n3⟩ := NewF.one (bytes := 1) (y := xs.getD i 0) (fZ_len .u8) (by omega) o2 (by omega)
      simp only [fZ] at e3
      simp (maxSteps := 4000000) (disch := omega) only [Zq, evO, vbox, wr, Zeq, if_true, if_false, Nat.reduceEqDiff, Nat.reduceAdd, Nat.reduceLeDiff, Nat.reduceSub, and_self, and_true, true_and, reduceIte, reduceCtorEq, eq_self, implies_true, forall_const, false_implies, imp_self, decide_true, decide_false, fix_nil, fix_cons, t0, t4, t3, lv, ix, ld, hw1, Zfl c1, Zfi c2, Zff, e3]
      refine ⟨xs.length - (i + 1), by omega, i + 1, u, _, rfl, rfl, kk3 H (Nat.le_refl _) k2, o3, ?_, by omega, rfl, by simp; omega⟩
      rw [hu, unI_last hin (fun hh => c2 (by omega)), List.append_assoc]; rfl
  · obtain ⟨u, H3, e3, o3, kk3, n3⟩ := NewF.one (bytes := 1) (y := xs.getD i 0) (fZ_len .u8) (by omega) o2 (by omega)
    simp only [fZ] at e3
    simp (maxSteps := 4000000) (disch := omega) only [Zq, evO, vbox, wr, Zeq, if_true, if_false, Nat.reduceEqDiff, Nat.reduceAdd, Nat.reduceLeDiff, Nat.reduceSub, and_self, and_true, true_and, reduceIte, reduceCtorEq, eq_self, implies_true, forall_const, false_implies, imp_self, decide_true, decide_false, fix_nil, fix_cons, t0, t4, t3, lv, ix, ld, hw1, Zfm c1, Zff, e3]
    refine ⟨xs.length - (i + 1), by omega, i + 1, u, _, rfl, rfl, kk3 H (Nat.le_refl _) k2, o3, ?_, by omega, rfl, by simp; omega⟩
    rw [hu, unI_last hin (fun hh => c1 hh.1), List.append_assoc]; rfl
end Go.Proofs.YtiajbefljkikiaaDoor.AX
