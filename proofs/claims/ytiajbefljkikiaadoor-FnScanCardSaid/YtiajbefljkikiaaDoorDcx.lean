/- Telegrams read back: the program's Decode. No condition beyond each law's own; of the program: the functions' forms. -/
import Derived.Test.YtiajbefljkikiaaDoorDcw
namespace Go.Proofs.YtiajbefljkikiaaDoor.AX
open Go
set_option maxRecDepth 10000
set_option maxHeartbeats 4000000
set_option linter.unusedSimpArgs false
set_option linter.unusedVariables false
def DecV (H H' : Heap) (r : Value) (D : Tel × Bool) : Prop := ∃ w F, r = .tuple #[.agg #[.int .i64 D.1.1, .int .i64 D.1.2.1, w], .bool D.2] ∧ (rSlc rByte).own H' [w] D.1.2.2 F ∧ Fresh H H' F
theorem decV_no {H H' : Heap} : DecV H H' (.tuple #[.agg #[.int .i64 0, .int .i64 0, .slice none 0 0], .bool false]) (telZ, false) := ⟨_, [], rfl, .inl ⟨rfl, rfl, rfl⟩, by simp, by simp⟩
theorem encB_isB {b : Int} (h : isB b) : ∀ x ∈ encB b, isB x := by
  intro x hx
  rw [encB] at hx
  split at hx
  · simp only [List.mem_cons, List.not_mem_nil, or_false] at hx
    rcases hx with rfl | rfl
    · exact ⟨by omega, by omega⟩
    · exact (xor32 h).1
  · simp only [List.mem_cons, List.not_mem_nil, or_false] at hx
    rw [hx]; exact h
theorem enc_isB {a b : Int} {l : List Int} (hl : ∀ x ∈ l, isB x) : ∀ x ∈ encR a b l, isB x := by
  intro x hx
  rw [encR] at hx
  split at hx
  · rw [encL, encTo] at hx
    simp only [List.cons_append, List.mem_cons, List.mem_append, List.mem_flatMap, List.not_mem_nil, or_false] at hx
    rcases hx with rfl | ⟨y, hy, hyx⟩ | rfl
    · exact ⟨by omega, by omega⟩
    · exact encB_isB (load_isB hl y hy) x hyx
    · exact ⟨by omega, by omega⟩
  · cases hx
theorem unI_len : ∀ xs : List Int, (unI xs).length ≤ xs.length
  | [] => Nat.le_refl _
  | [x] => Nat.le_refl _
  | x :: y :: xs => by
    rw [unI]
    split
    · have := unI_len xs
      simp only [List.length_cons]; omega
    · have := unI_len (y :: xs)
      simp only [List.length_cons] at this ⊢; omega
theorem r_impl_Decode {H : Heap} {v : Value} {d : List Int} (h : Bts H v d) (hl : d.length ≤ 1048576) (hd : ∀ x ∈ d, isB x) : Run Tryd.prog 9 [v] H fun r H' => Keep H H' ∧ DecV H H' r (decI d) := by
  have lv := fun H1 : Heap => IntsK.len_ (H1 := H1) h
  obtain ⟨b, hb⟩ : ∃ b, b = unI ((d.drop 1).take (d.length - 2)) := ⟨_, rfl⟩
  have hdI : decI d = if (6 ≤ d.length ∧ d.length ≤ 130) ∧ 4 ≤ b.length ∧ okT (telL b) = true ∧ encR (telL b).1 (telL b).2.1 (telL b).2.2 = d then (telL b, true) else (telZ, false) := by rw [hb]; rfl
  refine Run.intro c9 rfl ?_
  simp (maxSteps := 4000000) (disch := omega) only [Zq, evO, vbox, wr, Zeq, if_true, if_false, Nat.reduceEqDiff, Nat.reduceAdd, Nat.reduceLeDiff, Nat.reduceSub, and_self, and_true, true_and, reduceIte, reduceCtorEq, eq_self, implies_true, forall_const, false_implies, imp_self, decide_true, decide_false, x9, lv]
  generalize hG1 : H.push [.int .i64 0, .int .i64 0, .slice none 0 0] = H1
  have k1 : Keep H H1 := by rw [← hG1]; exact Keep.push _ _
  have n1 : H1.nxt = H.nxt + 1 := by rw [← hG1, Zbg]
  have g1 : H1.get H.nxt = some (.own [.int .i64 0, .int .i64 0, .slice none 0 0]) := by rw [← hG1, push_get', if_pos rfl]
  clear hG1
  have no : ∀ H2, Keep H H2 → Keep H (H2.set H.nxt [.int .i64 0, .int .i64 0, .slice none 0 0]) := fun H2 k => k.set' (Nat.le_refl _)
  by_cases c1 : (d.length : Int) < 6
  · rw [if_neg (fun hh => by omega)] at hdI
    simp (maxSteps := 4000000) (disch := omega) only [Zq, evO, vbox, wr, Zeq, if_true, if_false, Nat.reduceEqDiff, Nat.reduceAdd, Nat.reduceLeDiff, Nat.reduceSub, and_self, and_true, true_and, reduceIte, reduceCtorEq, eq_self, implies_true, forall_const, false_implies, imp_self, decide_true, decide_false, fix_nil, fix_cons, g1, lv, Zfh c1]
    exact ⟨no _ k1, by rw [hdI]; exact decV_no⟩
  by_cases c2 : (130 : Int) < d.length
  · rw [if_neg (fun hh => by omega)] at hdI
    simp (maxSteps := 4000000) (disch := omega) only [Zq, evO, vbox, wr, Zeq, if_true, if_false, Nat.reduceEqDiff, Nat.reduceAdd, Nat.reduceLeDiff, Nat.reduceSub, and_self, and_true, true_and, reduceIte, reduceCtorEq, eq_self, implies_true, forall_const, false_implies, imp_self, decide_true, decide_false, fix_nil, fix_cons, g1, lv, Zfi c1, Zfh c2]
    exact ⟨no _ k1, by rw [hdI]; exact decV_no⟩
  have h1 := IntsK.keep h k1
  have hw1 : IntKind.i64.wrap ((d.length : Int) - 1) = ((d.length - 1 : Nat) : Int) := by rw [wrap64 (by omega) (by omega)]; omega
  have sub1 : ∀ H0 : Heap, vslc H0 1 (some (.int .i64 1)) (some (.int .i64 ((d.length - 1 : Nat) : Int))) none v = some (subV v 1 (d.length - 1) 1, H0) := fun H0 => Sl.slc_both (a := 1) (k' := .i64) h (by omega) (by omega)
  have hs := IntsK.sub h1 (a := 1) (b := d.length - 1) (by omega) (by omega)
  rw [show d.length - 1 - 1 = d.length - 2 by omega] at hs
  simp (maxSteps := 4000000) (disch := omega) only [Zq, evO, vbox, wr, Zeq, if_true, if_false, Nat.reduceEqDiff, Nat.reduceAdd, Nat.reduceLeDiff, Nat.reduceSub, and_self, and_true, true_and, reduceIte, reduceCtorEq, eq_self, implies_true, forall_const, false_implies, imp_self, decide_true, decide_false, fix_nil, fix_cons, g1, lv, Zfi c1, Zfi c2, hw1, sub1]
  refine GO_call ((r_impl_unescape hs (by rw [List.length_take, List.length_drop]; omega)).mono ?_)
  rintro z H2 ⟨k2, o2⟩
  have n2 := k2.nxt
  have g2 := (k2.get (H.nxt) (by omega)).trans g1
  rw [← hb] at o2
  have k02 := k1.trans k2
  have hz : Bts H2 z b := by
    have := o2.sl (fZ_len .u8)
    rw [fcZ] at this
    exact this
  have lz := fun H1 : Heap => IntsK.len_ (H1 := H1) hz
  have hbB : ∀ x ∈ b, isB x := by
    rw [hb]
    exact unI_isB (fun y hy => hd y (List.mem_of_mem_drop (List.mem_of_mem_take hy)))
  by_cases c3 : (b.length : Int) < 4
  · rw [if_neg (fun hh => by omega)] at hdI
    simp (maxSteps := 4000000) (disch := omega) only [Zq, evO, vbox, wr, Zeq, if_true, if_false, Nat.reduceEqDiff, Nat.reduceAdd, Nat.reduceLeDiff, Nat.reduceSub, and_self, and_true, true_and, reduceIte, reduceCtorEq, eq_self, implies_true, forall_const, false_implies, imp_self, decide_true, decide_false, fix_nil, fix_cons, g1, g2, lz, Zfh c3]
    exact ⟨no _ k02, by rw [hdI]; exact decV_no⟩
  have hbl : b.length ≤ 1000 := by
    have := unI_len ((d.drop 1).take (d.length - 2))
    rw [← hb, List.length_take, List.length_drop] at this
    omega
  simp (maxSteps := 4000000) (disch := omega) only [Zq, evO, vbox, wr, Zeq, if_true, if_false, Nat.reduceEqDiff, Nat.reduceAdd, Nat.reduceLeDiff, Nat.reduceSub, and_self, and_true, true_and, reduceIte, reduceCtorEq, eq_self, implies_true, forall_const, false_implies, imp_self, decide_true, decide_false, fix_nil, fix_cons, g1, g2, lz, Zfi c3]
  have ix0 : ∀ H0 : Heap, vidx H0 1 z (.int .i64 0) = some (adr z 0 1 0, H0) := fun H0 => IntsK.idx (k' := .i64) (H1 := H0) (i := 0) hz (by omega)
  have ix1 : ∀ H0 : Heap, vidx H0 1 z (.int .i64 1) = some (adr z 1 1 0, H0) := fun H0 => IntsK.idx (k' := .i64) (H1 := H0) (i := 1) hz (by omega)
  have ld0 := IntsK.ld hz (by omega : 0 < b.length)
  have ld1 := IntsK.ld hz (by omega : 1 < b.length)
  have b0 := hbB (b.getD 0 0) (by rw [getD_get _ _ (by omega)]; exact List.getElem_mem _)
  have b1 := hbB (b.getD 1 0) (by rw [getD_get _ _ (by omega)]; exact List.getElem_mem _)
  have hwA : IntKind.i64.wrap (b.getD 0 0) = b.getD 0 0 := wrap64 (by have := b0.1; omega) (by have := b0.2; omega)
  have hwB : IntKind.i64.wrap (b.getD 1 0) = b.getD 1 0 := wrap64 (by have := b1.1; omega) (by have := b1.2; omega)
  have hw3 : IntKind.i64.wrap ((b.length : Int) - 1) = ((b.length - 1 : Nat) : Int) := by rw [wrap64 (by omega) (by omega)]; omega
  have sub2 : ∀ H0 : Heap, vslc H0 1 (some (.int .i64 3)) (some (.int .i64 ((b.length - 1 : Nat) : Int))) none z = some (subV z 3 (b.length - 1) 1, H0) := fun H0 => Sl.slc_both (a := 3) (k' := .i64) hz (by omega) (by omega)
  have tx0 : ∀ ix : Nat, trL ix (adr z 0 1 0) = [.L ix (blk z)] := fun ix => Sl.trL hz (by omega)
  have tx1 : ∀ ix : Nat, trL ix (adr z 1 1 0) = [.L ix (blk z)] := fun ix => Sl.trL hz (by omega)
  have bz := Sl.blk_lt hz (by omega : 0 < b.length)
  have o3 : NewF (fZ .u8) 1 H2 (H2.push []) (.slice (some ⟨H2.nxt, 0, none⟩) 0 1) [] := NewF.new (Keep.refl _)
  have hsb := IntsK.sub (IntsK.keep hz (Keep.push H2 [])) (a := 3) (b := b.length - 1) (by omega) (by omega)
  rw [show b.length - 1 - 3 = b.length - 4 by omega] at hsb
  obtain ⟨u, H4, e4, o4, kk4, n4⟩ := NewF.app (bytes := 1) (ys := (b.drop 3).take (b.length - 4)) (fZ_len .u8) (by omega) o3 (IntsK.slF hsb) (by rw [List.length_take, List.length_drop]; simp; omega)
  rw [List.nil_append] at o4
  have k24 : Keep H2 H4 := kk4 H2 (Nat.le_refl _) (Keep.push _ _)
  have g4 := (k24.get H.nxt (by have := k2.nxt; omega)).trans g2
  have n24 := k24.nxt
  have u1 := Sl.noTup_ (o4.sl (fZ_len .u8))
  have u2 := Sl.cells_ (o4.sl (fZ_len .u8))
  simp (maxSteps := 4000000) (disch := omega) only [ZD, Zio, Zip, pre_, beq_self_eq_true, Nat.reduceBEq, Zq, evO, vbox, wr, Zeq, if_true, if_false, Nat.reduceEqDiff, Nat.reduceAdd, Nat.reduceLeDiff, Nat.reduceSub, and_self, and_true, true_and, reduceIte, reduceCtorEq, eq_self, implies_true, forall_const, false_implies, imp_self, decide_true, decide_false, fix_nil, fix_cons, g1, g2, g4, G_dreg, ix0, ld0, tx0, ix1, ld1, tx1, hwA, hwB, lz, hw3, sub2, GD_app, e4, u1, u2]
  first | with_reducible refine And.intro (by repeat' (first | apply And.intro | omega | exact k24.get _ (by omega))) ?_ | skip
  generalize hG5 : (H4.push [.int .i64 0, .int .i64 0, .slice none 0 0]).set H4.nxt [.int .i64 (b.getD 0 0), .int .i64 (b.getD 1 0), u] = H5
  have k5 : Keep H4 H5 := by rw [← hG5]; repeat' (first | exact Keep.refl _ | assumption | refine Keep.push' ?_ | refine Keep.set' ?_ ?_ | refine Keep.moved' ?_ ?_ | omega)
  have g5 : H5.get H4.nxt = some (.own [.int .i64 (b.getD 0 0), .int .i64 (b.getD 1 0), u]) := by rw [← hG5, Zbi, if_pos rfl]
  have n5 : H5.nxt = H4.nxt + 1 := by rw [← hG5, Zbh, Zbg]
  have n02 := k02.nxt
  have hn2 := k2.nxt
  have g5n := (k5.get H.nxt (by omega)).trans g4
  have o5 := o4.keep k5
  have hu5 : Bts H5 u ((b.drop 3).take (b.length - 4)) := by
    have := o5.sl (fZ_len .u8)
    rw [fcZ] at this
    exact this
  have htl : telL b = (b.getD 0 0, b.getD 1 0, (b.drop 3).take (b.length - 4)) := rfl
  have hokT : okT (telL b) = okTel (b.getD 0 0) (b.getD 1 0) ((b.drop 3).take (b.length - 4)).length := rfl
  have hbody : ∀ x ∈ (b.drop 3).take (b.length - 4), isB x := fun x hx => hbB x (List.mem_of_mem_drop (List.mem_of_mem_take hx))
  refine GO_call ((r_impl_TelegramOk (a := b.getD 0 0) (b := b.getD 1 0) (of_bts hu5)).mono ?_)
  rintro _ H6 ⟨k6, rfl⟩
  have n6 := k6.nxt
  have g6 := (k6.get (H4.nxt) (by omega)).trans g5
  have g6n := (k6.get (H.nxt) (by omega)).trans g5n
  have k06 : Keep H H6 := k02.trans (k24.trans (k5.trans k6))
  cases c4 : okTel (b.getD 0 0) (b.getD 1 0) ((b.drop 3).take (b.length - 4)).length with
  | false =>
    rw [hokT, c4, if_neg (fun hh => by cases hh.2.2.1)] at hdI
    simp (maxSteps := 4000000) (disch := omega) only [Zq, evO, vbox, wr, Zeq, if_true, if_false, Nat.reduceEqDiff, Nat.reduceAdd, Nat.reduceLeDiff, Nat.reduceSub, and_self, and_true, true_and, reduceIte, reduceCtorEq, eq_self, implies_true, forall_const, false_implies, imp_self, decide_true, decide_false, fix_nil, fix_cons, g1, g2, g4, g5, g5n, g6, g6n]
    exact ⟨no _ k06, by rw [hdI]; exact decV_no⟩
  | true =>
  simp (maxSteps := 4000000) (disch := omega) only [Zq, evO, vbox, wr, Zeq, if_true, if_false, Nat.reduceEqDiff, Nat.reduceAdd, Nat.reduceLeDiff, Nat.reduceSub, and_self, and_true, true_and, reduceIte, reduceCtorEq, eq_self, implies_true, forall_const, false_implies, imp_self, decide_true, decide_false, fix_nil, fix_cons, g1, g2, g4, g5, g5n, g6, g6n]
  refine GO_call ((r_impl_Encode (a := b.getD 0 0) (b := b.getD 1 0) (IntsK.keep hu5 k6) (by rw [List.length_take, List.length_drop]; omega)).mono ?_)
  rintro y H7 ⟨k7, oy⟩
  have n7 := k7.nxt
  have g7 := (k7.get (H4.nxt) (by omega)).trans g6
  have g7n := (k7.get (H.nxt) (by omega)).trans g6n
  have hy7 : Bts H7 y (encR (b.getD 0 0) (b.getD 1 0) ((b.drop 3).take (b.length - 4))) := by
    obtain ⟨F, hF, _⟩ := oy
    exact bts_of ((rSlc rByte).ownrd hF)
  simp (maxSteps := 4000000) (disch := omega) only [Zq, evO, vbox, wr, Zeq, if_true, if_false, Nat.reduceEqDiff, Nat.reduceAdd, Nat.reduceLeDiff, Nat.reduceSub, and_self, and_true, true_and, reduceIte, reduceCtorEq, eq_self, implies_true, forall_const, false_implies, imp_self, decide_true, decide_false, fix_nil, fix_cons, g1, g2, g4, g5, g5n, g6, g6n, g7, g7n]
  refine GO_call ((r_bytes_Equal hy7 (IntsK.keep h (k06.trans k7)) (enc_isB hbody) hd).mono ?_)
  rintro _ H8 ⟨k8, rfl⟩
  have n8 := k8.nxt
  have g8 := (k8.get (H4.nxt) (by omega)).trans g7
  have g8n := (k8.get (H.nxt) (by omega)).trans g7n
  have k08 := k06.trans (k7.trans k8)
  by_cases c5 : encR (b.getD 0 0) (b.getD 1 0) ((b.drop 3).take (b.length - 4)) = d
  rotate_left
  · rw [decide_eq_false c5]
    rw [if_neg (fun hh => c5 hh.2.2.2)] at hdI
    simp (maxSteps := 4000000) (disch := omega) only [Zq, evO, vbox, wr, Zeq, if_true, if_false, Nat.reduceEqDiff, Nat.reduceAdd, Nat.reduceLeDiff, Nat.reduceSub, and_self, and_true, true_and, reduceIte, reduceCtorEq, eq_self, implies_true, forall_const, false_implies, imp_self, decide_true, decide_false, fix_nil, fix_cons, g1, g2, g4, g5, g5n, g6, g6n, g7, g7n, g8, g8n]
    exact ⟨no _ k08, by rw [hdI]; exact decV_no⟩
  rw [decide_eq_true c5]
  rw [if_pos ⟨⟨by omega, by omega⟩, by omega, by rw [hokT, c4], c5⟩] at hdI
  simp (maxSteps := 4000000) (disch := omega) only [Zq, evO, vbox, wr, Zeq, if_true, if_false, Nat.reduceEqDiff, Nat.reduceAdd, Nat.reduceLeDiff, Nat.reduceSub, and_self, and_true, true_and, reduceIte, reduceCtorEq, eq_self, implies_true, forall_const, false_implies, imp_self, decide_true, decide_false, fix_nil, fix_cons, g1, g2, g4, g5, g5n, g6, g6n, g7, g7n, g8, g8n, u1, u2]
  refine ⟨k08.set' (Nat.le_refl _), ?_⟩
  rw [hdI, htl]
  have o8 := (o5.keep (k6.trans (k7.trans k8))).set_lt (q := H.nxt) (cs := [.int .i64 (b.getD 0 0), .int .i64 (b.getD 1 0), u]) (by omega)
  obtain ⟨F, hF, fF⟩ := (o8.base (H0 := H) (by omega)).ownB
  exact ⟨u, F, rfl, hF, fF⟩
end Go.Proofs.YtiajbefljkikiaaDoor.AX
