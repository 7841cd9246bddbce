/- Drawn names. No condition beyond each law's own; of the program: the functions' forms. -/
import Derived.Test.YtjjglonmaajjoaaGpr
import Derived.Test.YtjjglonmaajjoaaNtf
namespace Go.Proofs.Ytjjglonmaajjoaa.AX
open Go
set_option maxRecDepth 10000
set_option maxHeartbeats 4000000
set_option linter.unusedSimpArgs false
set_option linter.unusedVariables false
/-- All of a text's bytes may stand in a name. -/
def dgs (s : ByteArray) : Prop := ∀ b ∈ s.data.toList, chOk (b.toNat : Int) = true
theorem dgs_app {s t : ByteArray} (h : dgs s) (g : dgs t) : dgs (s ++ t) := by
  intro b hb
  have e : (s ++ t).data.toList = s.data.toList ++ t.data.toList := by simp
  rw [e] at hb
  rcases List.mem_append.1 hb with hb | hb
  · exact h b hb
  · exact g b hb
theorem dgs_nm {s : ByteArray} (h : dgs s) (h1 : 1 ≤ s.size) (h2 : s.size ≤ 12) : nmOk s = true := by
  rw [nmOk, inR_t (by omega), Bool.true_and, allTo_iff]
  intro i hi
  have hi' : i < s.data.toList.length := by simpa using hi
  rw [bt, getD_get _ _ hi']
  exact h _ (List.getElem_mem hi')
theorem dgs_nums {x : Nat} (h : x < 256) (hc : chOk (x : Int) = true) : dgs (strOfNums [(x : Int)]) := by
  intro b hb
  have e : (strOfNums [(x : Int)]).data.toList = [UInt8.ofNat x] := by
    simp [strOfNums]
  rw [e] at hb
  simp only [List.mem_singleton] at hb
  subst hb
  have : (UInt8.ofNat x).toNat = x := by simp; omega
  rw [this]
  exact hc
theorem abin_sadd' {s t : ByteArray} (h : s.size + t.size ≤ 9223372036854775807) : abin .add (.string s) (.string t) = some (.string (s ++ t)) := by simp [abin, strOp, h]
theorem b2s_one' {H : Heap} {p : Nat} {x : Int} (hg : H.get p = some (.own [.int .u8 x])) : vb2s H (.slice (some ⟨p, 0, none⟩) 1 1) = some (.string (strOfNums [x]), H) := by
  simp only [vb2s, byts, hg]
  rfl
theorem r_spec_l01Num (k : Nat) (H : Heap) (hk : k < 90) : Run Try.prog 123 [.int .i64 k] H fun r H' => Keep H H' ∧ ∃ s, r = .string s ∧ dgs s ∧ 1 ≤ s.size ∧ s.size ≤ 2 := by
  by_cases h0 : (k : Int) = 0
  · refine Run.intro c123 rfl ?_
    simp (maxSteps := 4000000) (disch := omega) only [Zq, evO, vbox, wr, Zeq, if_true, if_false, Nat.reduceEqDiff, Nat.reduceAdd, Nat.reduceLeDiff, Nat.reduceSub, and_self, and_true, true_and, reduceIte, reduceCtorEq, eq_self, implies_true, forall_const, false_implies, imp_self, decide_true, decide_false, x123, Zfl h0]
    exact ⟨Keep.refl _, _, rfl, by intro b hb; simp at hb; subst hb; decide, by decide, by decide⟩
  have hneg : ¬ (k : Int) < 0 := by omega
  refine Run.intro c123 rfl ?_
  simp (maxSteps := 4000000) (disch := omega) only [Zq, evO, vbox, wr, Zeq, if_true, if_false, Nat.reduceEqDiff, Nat.reduceAdd, Nat.reduceLeDiff, Nat.reduceSub, and_self, and_true, true_and, reduceIte, reduceCtorEq, eq_self, implies_true, forall_const, false_implies, imp_self, decide_true, decide_false, x123, Zfm h0, Zfi hneg]
  refine G_loopF [4] (k) (fun j T H1 => T 0 = .int .i64 (j : Int) ∧ ∃ out, T 3 = .string out ∧ dgs out ∧ Keep H H1 ∧ ((out.size = 0 ∧ j = k) ∨ (out.size = 1 ∧ j = k / 10) ∨ (out.size = 2 ∧ j = 0))) ?_ ?_
  · simp (maxSteps := 4000000) (disch := omega) only [Zq, evO, vbox, wr, Zeq, if_true, if_false, Nat.reduceEqDiff, Nat.reduceAdd, Nat.reduceLeDiff, Nat.reduceSub, and_self, and_true, true_and, reduceIte, reduceCtorEq, eq_self, implies_true, forall_const, false_implies, imp_self, decide_true, decide_false, fix_nil, fix_cons]
    exact ⟨_, rfl, (by intro b hb; simp at hb), Keep.refl _, .inl rfl⟩
  rintro j T H1 hT ⟨t0, out, t3, hd, k1, hs⟩
  simp only [fix_nil, fix_cons, Zq, evO, vbox, wr, Zeq, if_true, if_false, Nat.reduceEqDiff, Nat.reduceAdd, Nat.reduceLeDiff, Nat.reduceSub, and_self, and_true, true_and, reduceIte, reduceCtorEq, eq_self, implies_true, forall_const, false_implies, imp_self, decide_true, decide_false] at hT
  have t4 := hT
  by_cases hj : (j : Int) = 0
  · simp (maxSteps := 4000000) (disch := omega) only [Zq, evO, vbox, wr, Zeq, if_true, if_false, Nat.reduceEqDiff, Nat.reduceAdd, Nat.reduceLeDiff, Nat.reduceSub, and_self, and_true, true_and, reduceIte, reduceCtorEq, eq_self, implies_true, forall_const, false_implies, imp_self, decide_true, decide_false, fix_nil, fix_cons, t4, t0, t3, Zfl hj]
    exact ⟨k1, out, rfl, hd, by omega, by omega⟩
  have hr : abin .rem (.int .i64 (j : Int)) (.int .i64 10) = some (.int .i64 ((j % 10 : Nat) : Int)) := by
    rw [abin_rem (by decide), Int.tmod_eq_emod_of_nonneg (by omega)]; rfl
  have hq : abin .quo (.int .i64 (j : Int)) (.int .i64 10) = some (.int .i64 ((j / 10 : Nat) : Int)) := by
    rw [abin_quo (by decide), Int.tdiv_eq_ediv_of_nonneg (by omega), wrap64 (by omega) (by omega)]; rfl
  have hm : ¬ ((j % 10 : Nat) : Int) < 0 := by omega
  have hw : IntKind.i64.wrap (48 + ((j % 10 : Nat) : Int)) = ((48 + j % 10 : Nat) : Int) := by rw [wrap64 (by omega) (by omega)]; omega
  have hu : IntKind.u8.wrap ((48 + j % 10 : Nat) : Int) = ((48 + j % 10 : Nat) : Int) := by rw [wrap8, Nat.mod_eq_of_lt (by omega)]
  have gp : (H1.push [Value.int .u8 ((48 + j % 10 : Nat) : Int)]).get H1.nxt = some (.own [.int .u8 ((48 + j % 10 : Nat) : Int)]) := by rw [push_get', if_pos rfl]
  have hsz : (strOfNums [((48 + j % 10 : Nat) : Int)]).size = 1 := rfl
  have ha := abin_sadd' (s := strOfNums [((48 + j % 10 : Nat) : Int)]) (t := out) (by omega)
  simp (maxSteps := 4000000) (disch := omega) only [Zq, evO, vbox, wr, Zeq, if_true, if_false, Nat.reduceEqDiff, Nat.reduceAdd, Nat.reduceLeDiff, Nat.reduceSub, and_self, and_true, true_and, reduceIte, reduceCtorEq, eq_self, implies_true, forall_const, false_implies, imp_self, decide_true, decide_false, fix_nil, fix_cons, t4, t0, t3, Zfm hj, hr, Zfi hm, hw, hu, GO_b2s, b2s_one' gp, ha, hq]
  refine ⟨j / 10, by omega, rfl, _, rfl, dgs_app (dgs_nums (by omega) (by rw [chOk, inR_t (a := 48) (b := 57) (by omega), Bool.or_true])) hd, k1.trans (Keep.push _ _), ?_⟩
  rw [ByteArray.size_append, hsz]
  omega
section
variable {B : Heap} {v : Value} {code : List Int} {p : Nat} {H : Heap}
theorem r_spec_l01PickText {w : Value} {xs : List ByteArray} (hb : Bts' B v code) (hl : code.length ≤ 1048576) (hc : ∀ x ∈ code, 0 ≤ x ∧ x ≤ 255) (c : Cur B v code H p) (hw : Sl H w 1 xs.length (xs.map Value.string)) (hp : blk w ≠ p) (hn : 1 ≤ xs.length) (hn' : xs.length ≤ 1000000) : Run Try.prog 122 [ptr p 0, w] H fun r H' => Chg [p] H H' ∧ Cur B v code H' p ∧ ∃ s, s ∈ xs ∧ r = .string s := by
  have lw : ∀ H : Heap, vlen H w = some (.int .i64 xs.length, H) := fun _ => Sl.len_ hw
  refine Run.intro c122 rfl ?_
  simp (maxSteps := 4000000) (disch := omega) only [Zq, evO, vbox, wr, Zeq, if_true, if_false, Nat.reduceEqDiff, Nat.reduceAdd, Nat.reduceLeDiff, Nat.reduceSub, and_self, and_true, true_and, reduceIte, reduceCtorEq, eq_self, implies_true, forall_const, false_implies, imp_self, decide_true, decide_false, x122, lw]
  refine GO_call ((r_spec_l01Below hb hl hc c hn hn').mono ?_)
  rintro _ H1 ⟨c1, u1, z, rfl, hz⟩
  have bl := Sl.blk_lt hw hz
  have hw1 : Sl H1 w 1 xs.length (xs.map Value.string) := Sl.agree hw c1.nxt (c1.get _ bl (by simpa using hp))
  have ld := hw1.ld (o := 0) (c := .string xs[z]) hz (by rw [Nat.mul_one, Nat.add_zero, List.getElem?_map, List.getElem?_eq_getElem hz]; rfl)
  simp (maxSteps := 4000000) (disch := omega) only [Zq, evO, vbox, wr, Zeq, if_true, if_false, Nat.reduceEqDiff, Nat.reduceAdd, Nat.reduceLeDiff, Nat.reduceSub, and_self, and_true, true_and, reduceIte, reduceCtorEq, eq_self, implies_true, forall_const, false_implies, imp_self, decide_true, decide_false, fix_nil, fix_cons, hw1.idx hz, ld]
  exact ⟨c1, u1, xs[z], List.getElem_mem hz, rfl⟩
theorem r_spec_l08DrawName (hb : Bts' B v code) (hl : code.length ≤ 1048576) (hc : ∀ x ∈ code, 0 ≤ x ∧ x ≤ 255) (c : Cur B v code H p) : Run Try.prog 115 [ptr p 0] H fun r H' => Chg [p] H H' ∧ Cur B v code H' p ∧ ∃ s, r = .string s ∧ nmOk s = true := by
  refine Run.intro c115 rfl ?_
  simp (maxSteps := 4000000) (disch := omega) only [Zq, evO, vbox, wr, Zeq, if_true, if_false, Nat.reduceEqDiff, Nat.reduceAdd, Nat.reduceLeDiff, Nat.reduceSub, and_self, and_true, true_and, reduceIte, reduceCtorEq, eq_self, implies_true, forall_const, false_implies, imp_self, decide_true, decide_false, x115]
  obtain ⟨xs, hxs⟩ : ∃ xs : List ByteArray, xs = [⟨#[97]⟩, ⟨#[105, 99]⟩, ⟨#[114, 101]⟩, ⟨#[115]⟩, ⟨#[120]⟩] := ⟨_, rfl⟩
  have hm : [Value.string ⟨#[97]⟩, .string ⟨#[105, 99]⟩, .string ⟨#[114, 101]⟩, .string ⟨#[115]⟩, .string ⟨#[120]⟩] = xs.map Value.string := by rw [hxs]; rfl
  have hx : ∀ x ∈ xs, dgs x ∧ 1 ≤ x.size ∧ x.size ≤ 2 := by
    rw [hxs]
    intro x hx
    simp only [List.mem_cons, List.not_mem_nil, or_false] at hx
    have key : ∀ y ∈ ([⟨#[97]⟩, ⟨#[105, 99]⟩, ⟨#[114, 101]⟩, ⟨#[115]⟩, ⟨#[120]⟩] : List ByteArray), (∀ b ∈ y.data.toList, chOk (b.toNat : Int) = true) ∧ 1 ≤ y.size ∧ y.size ≤ 2 := by decide
    exact key x (by simp only [List.mem_cons, List.not_mem_nil, or_false]; exact hx)
  have h5 : xs.length = 5 := by rw [hxs]; rfl
  rw [hm]
  clear hxs hm
  generalize hG1 : H.push (xs.map Value.string) = H1
  have k1 : Keep H H1 := by rw [← hG1]; exact Keep.push _ _
  have hw : Sl H1 (.slice (some ⟨H.nxt, 0, none⟩) 5 1) 1 xs.length (xs.map Value.string) := by
    rw [h5, ← hG1]
    exact sl_own (by rw [Zbg]; omega) (by rw [push_get', if_pos rfl]) (by simp [h5])
  have pl := c.2.2.1
  refine GO_call ((r_spec_l01PickText hb hl hc (c.chg k1) hw (by show H.nxt ≠ p; omega) (by omega) (by omega)).mono ?_)
  rintro _ H2 ⟨c2, u2, s, hs, rfl⟩
  simp (maxSteps := 4000000) (disch := omega) only [Zq, evO, vbox, wr, Zeq, if_true, if_false, Nat.reduceEqDiff, Nat.reduceAdd, Nat.reduceLeDiff, Nat.reduceSub, and_self, and_true, true_and, reduceIte, reduceCtorEq, eq_self, implies_true, forall_const, false_implies, imp_self, decide_true, decide_false, fix_nil, fix_cons]
  refine GO_call ((r_spec_l01Below (n := 90) hb hl hc u2 (by omega) (by omega)).mono ?_)
  rintro _ H3 ⟨c3, u3, z, rfl, hz⟩
  simp (maxSteps := 4000000) (disch := omega) only [Zq, evO, vbox, wr, Zeq, if_true, if_false, Nat.reduceEqDiff, Nat.reduceAdd, Nat.reduceLeDiff, Nat.reduceSub, and_self, and_true, true_and, reduceIte, reduceCtorEq, eq_self, implies_true, forall_const, false_implies, imp_self, decide_true, decide_false, fix_nil, fix_cons]
  refine GO_call ((r_spec_l01Num z H3 hz).mono ?_)
  rintro _ H4 ⟨k4, t, rfl, ht, ht1, ht2⟩
  have n4 := k4.nxt
  obtain ⟨s1, s2, s3⟩ := hx s hs
  have ha := abin_sadd' (s := s) (t := t) (by omega)
  simp (maxSteps := 4000000) (disch := omega) only [Zq, evO, vbox, wr, Zeq, if_true, if_false, Nat.reduceEqDiff, Nat.reduceAdd, Nat.reduceLeDiff, Nat.reduceSub, and_self, and_true, true_and, reduceIte, reduceCtorEq, eq_self, implies_true, forall_const, false_implies, imp_self, decide_true, decide_false, fix_nil, fix_cons, ha]
  exact ⟨k1.chg.trans (c2.trans (c3.trans k4.chg)), u3.chg k4, _, rfl, dgs_nm (dgs_app s1 ht) (by rw [ByteArray.size_append]; omega) (by rw [ByteArray.size_append]; omega)⟩
end
end Go.Proofs.Ytjjglonmaajjoaa.AX
