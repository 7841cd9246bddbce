/- Drawn nets and ways. No condition beyond each law's own; of the program: the functions' forms. -/
import Derived.Test.YtjjglonmaajjoaaDw1
import Derived.Test.YtjjglonmaajjoaaPds
namespace Go.Proofs.Ytjjglonmaajjoaa.AX
open Go
set_option maxRecDepth 10000
set_option maxHeartbeats 4000000
set_option linter.unusedSimpArgs false
set_option linter.unusedVariables false
/-- A net of which every node has an edge. -/
def allOn (N : Nat) (es : List Ed) : Prop := ∀ a : Nat, a < N → ∃ e, e < es.length ∧ 0 ≤ oth (ed es e) a
theorem oth_jn {n : Int} {es : List Ed} {e : Nat} {a : Int} (he : e < es.length) (hok : edOk n (ed es e) = true) (h : 0 ≤ oth (ed es e) a) : 0 ≤ jn es a (oth (ed es e) a) ∧ oth (ed es e) a ≠ a ∧ oth (ed es e) a ≤ n - 1 := by
  have hk := hok
  simp only [edOk, Bool.and_eq_true, inR_iff, Bool.not_eq_true', decide_eq_false_iff_not] at hk
  have hhit : edHit (ed es e) a (oth (ed es e) a) = true := by
    rw [oth] at h
    by_cases c1 : (ed es e).1 = a
    · simp [edHit, oth, c1]
    · rw [if_neg c1] at h
      by_cases c2 : (ed es e).2.1 = a
      · simp [edHit, oth, c1, c2]
      · rw [if_neg c2] at h; omega
  refine ⟨?_, ?_, ?_⟩
  · rcases Int.lt_or_le (jn es a (oth (ed es e) a)) 0 with c | c
    · exfalso
      have key : ∀ m i, i + m = es.length → i ≤ e → 0 ≤ jnF es a (oth (ed es e) a) i m := by
        intro m
        induction m with
        | zero => intro i h1 h2; omega
        | succ m ih =>
          intro i h1 h2
          rw [jnF]
          split
          · omega
          · rename_i hn
            refine ih (i + 1) (by omega) ?_
            by_cases e1 : i = e
            · subst e1; exact absurd hhit hn
            · omega
      have := key es.length 0 (by omega) (by omega)
      rw [jn] at c
      omega
    · exact c
  · rw [oth]
    by_cases c1 : (ed es e).1 = a
    · rw [if_pos c1]; omega
    · rw [if_neg c1] at *
      by_cases c2 : (ed es e).2.1 = a
      · rw [if_pos c2]; exact c1
      · rw [oth, if_neg c1, if_neg c2] at h; omega
  · rw [oth] at h ⊢
    by_cases c1 : (ed es e).1 = a
    · rw [if_pos c1] at h ⊢; omega
    · rw [if_neg c1] at h ⊢
      by_cases c2 : (ed es e).2.1 = a
      · rw [if_pos c2] at h ⊢; omega
      · rw [if_neg c2] at h ⊢; omega
section
variable {B : Heap} {v : Value} {code : List Int} {p : Nat} {H : Heap}
theorem r_spec_l02DrawWay {n : Int} {vn : Value} {es : List Ed} {N a : Nat} (hb : Bts' B v code) (hl : code.length ≤ 1048576) (hc : ∀ x ∈ code, 0 ≤ x ∧ x ≤ 255) (c : Cur B v code H p) {Fn : List Nat} (oE : (rSlc rEdge).own H [vn] es Fn) (hpF : p ∉ Fn) (hel : es.length ≤ 60) (hon : allOn N es) (ha : a < N) : Run Try.prog 116 [ptr p 0, .agg #[.int .i64 n, vn], .int .i64 a, .int .i64 1] H fun r H' => Chg [p] H H' ∧ Cur B v code H' p ∧ ∃ e : Nat, e < es.length ∧ 0 ≤ oth (ed es e) a ∧ NewI H H' r [(e : Int)] := by
  obtain ⟨e0, he0, _⟩ := hon a ha
  have hpos : 0 < es.length := by omega
  have he := (rSlc rEdge).ownrd oE
  have hE : ∀ H', Chg [p] H H' → (rSlc rEdge).rd H' [vn] es := fun H' cc => (rSlc rEdge).ownrd ((rSlc rEdge).ownChg oE cc (fun a ha hm => by simp at hm; subst hm; exact hpF ha))
  refine Run.intro c116 rfl ?_
  simp (maxSteps := 4000000) (disch := omega) only [Zq, evO, vbox, wr, Zeq, if_true, if_false, Nat.reduceEqDiff, Nat.reduceAdd, Nat.reduceLeDiff, Nat.reduceSub, and_self, and_true, true_and, reduceIte, reduceCtorEq, eq_self, implies_true, forall_const, false_implies, imp_self, decide_true, decide_false, x116]
  generalize hG1 : H.push [.int .i64 n, vn] = H1
  have k1 : Keep H H1 := by rw [← hG1]; exact Keep.push _ _
  have g1 : H1.get H.nxt = some (.own [.int .i64 n, vn]) := by rw [← hG1, push_get', if_pos rfl]
  have n1 : H1.nxt = H.nxt + 1 := by rw [← hG1, Zbg]
  have c1 := c.chg k1
  have pl := c.2.2.1
  generalize hG2 : H1.push [] = H2
  have k2 : Keep H1 H2 := by rw [← hG2]; exact Keep.push _ _
  have n2 : H2.nxt = H1.nxt + 1 := by rw [← hG2, Zbg]
  have o2 : NewF (fZ .i64) 1 H1 H2 (.slice (some ⟨H1.nxt, 0, none⟩) 0 1) [] := by rw [← hG2]; exact NewF.new (Keep.refl _)
  rw [n1] at o2
  have g2 := (k2.get H.nxt (by omega)).trans g1
  clear hG2
  refine G_forF [0, 3, 5] (1) (fun i T H3 => T 11 = .int .i64 (i : Int) ∧ Chg [p] H H3 ∧ Cur B v code H3 p ∧ H3.get H.nxt = some (.own [.int .i64 n, vn]) ∧ H.nxt < H3.nxt ∧ ((i = 0 ∧ T 10 = .int .i64 (a : Int) ∧ ∃ w, T 9 = w ∧ NewI H1 H3 w []) ∨ (i = 1 ∧ ∃ (e : Nat) (w : Value), e < es.length ∧ 0 ≤ oth (ed es e) a ∧ T 9 = w ∧ NewI H1 H3 w [(e : Int)]))) 0 (Nat.zero_le _) ?_ ?_
  · simp (maxSteps := 4000000) (disch := omega) only [Zq, evO, vbox, wr, Zeq, if_true, if_false, Nat.reduceEqDiff, Nat.reduceAdd, Nat.reduceLeDiff, Nat.reduceSub, and_self, and_true, true_and, reduceIte, reduceCtorEq, eq_self, implies_true, forall_const, false_implies, imp_self, decide_true, decide_false, fix_nil, fix_cons, g1, g2]
    exact ⟨k1.chg.trans k2.chg, c1.chg k2, by omega, .inl ⟨_, rfl, o2⟩⟩
  rintro i T H3 hi hT ⟨t11, c3, u3, g3, q3, hs⟩
  simp only [fix_nil, fix_cons, Zq, evO, vbox, wr, Zeq, if_true, if_false, Nat.reduceEqDiff, Nat.reduceAdd, Nat.reduceLeDiff, Nat.reduceSub, and_self, and_true, true_and, reduceIte, reduceCtorEq, eq_self, implies_true, forall_const, false_implies, imp_self, decide_true, decide_false] at hT
  obtain ⟨t0, t3, t5⟩ := hT
  have pl3 := u3.2.2.1
  rcases hs with ⟨rfl, x10, w, x9, o3⟩ | ⟨rfl, e, w, h1, h2, x9, o3⟩
  rotate_left
  · have x1 := Sl.noTup_ (o3.sl (fZ_len .i64))
    have x2 := Sl.cells_ (o3.sl (fZ_len .i64))
    simp (maxSteps := 4000000) (disch := omega) only [Zq, evO, vbox, wr, Zeq, if_true, if_false, Nat.reduceEqDiff, Nat.reduceAdd, Nat.reduceLeDiff, Nat.reduceSub, and_self, and_true, true_and, reduceIte, reduceCtorEq, eq_self, implies_true, forall_const, false_implies, imp_self, decide_true, decide_false, fix_nil, fix_cons, g1, g2, t0, t3, t5, t11, g3, x9, x1, x2]
    exact ⟨c3, u3, e, h1, h2, o3.base (by omega)⟩
  have lv : ∀ H : Heap, vlen H vn = some (.int .i64 es.length, H) := fun _ => slc_len he
  simp (maxSteps := 4000000) (disch := omega) only [Zq, evO, vbox, wr, Zeq, if_true, if_false, Nat.reduceEqDiff, Nat.reduceAdd, Nat.reduceLeDiff, Nat.reduceSub, and_self, and_true, true_and, reduceIte, reduceCtorEq, eq_self, implies_true, forall_const, false_implies, imp_self, decide_true, decide_false, fix_nil, fix_cons, g1, g2, t0, t3, t5, t11, g3, lv]
  refine GO_call ((r_spec_l01Below hb hl hc u3 (by omega : 1 ≤ es.length) (by omega)).mono ?_)
  rintro _ H4 ⟨c4, u4, s, rfl, hs⟩
  have n3 := c3.nxt
  have n4 := c4.nxt
  have g4 := (c4.get H.nxt (by omega) (by simp; omega)).trans g3
  have hwb := NewF.blks o3
  have hwp : blk w ≠ p := by omega
  have o4 := NewF.agree o3 n4 (c4.get _ hwb.2 (by simpa using hwp))
  have c04 := c3.trans c4
  simp (maxSteps := 4000000) (disch := omega) only [Zq, evO, vbox, wr, Zeq, if_true, if_false, Nat.reduceEqDiff, Nat.reduceAdd, Nat.reduceLeDiff, Nat.reduceSub, and_self, and_true, true_and, reduceIte, reduceCtorEq, eq_self, implies_true, forall_const, false_implies, imp_self, decide_true, decide_false, fix_nil, fix_cons, g1, g2, t0, t3, t5, t11, g3, g4, x9, x10, lv]
  refine G_forF [0, 3, 5, 11, 12] (es.length) (fun k T H5 => T 13 = .int .i64 (k : Int) ∧ T 10 = .int .i64 (a : Int) ∧ T 9 = w ∧ Keep H4 H5 ∧ ∀ j, j < k → oth (ed es ((s + j) % es.length)) a < 0) 0 (Nat.zero_le _) ?_ ?_
  · simp (maxSteps := 4000000) (disch := omega) only [Zq, evO, vbox, wr, Zeq, if_true, if_false, Nat.reduceEqDiff, Nat.reduceAdd, Nat.reduceLeDiff, Nat.reduceSub, and_self, and_true, true_and, reduceIte, reduceCtorEq, eq_self, implies_true, forall_const, false_implies, imp_self, decide_true, decide_false, fix_nil, fix_cons, g1, g2, t0, t3, t5, t11, g3, g4, x9, x10]
    exact ⟨Keep.refl _, fun j hj => by omega⟩
  rintro k T H5 hk hT ⟨t13, t10, t9, k5, hno⟩
  simp only [fix_nil, fix_cons, Zq, evO, vbox, wr, Zeq, if_true, if_false, Nat.reduceEqDiff, Nat.reduceAdd, Nat.reduceLeDiff, Nat.reduceSub, and_self, and_true, true_and, reduceIte, reduceCtorEq, eq_self, implies_true, forall_const, false_implies, imp_self, decide_true, decide_false, t0, t3, t5, t11] at hT
  obtain ⟨t0, t3, t5, t11, t12⟩ := hT
  have n5 := k5.nxt
  have g5 := (k5.get H.nxt (by omega)).trans g4
  have c05 := c04.trans k5.chg
  by_cases hkn : k < es.length
  rotate_left
  · obtain rfl : k = es.length := by omega
    exfalso
    obtain ⟨e, h1, h2⟩ := hon a ha
    have hj : (e + es.length - s) % es.length < es.length := Nat.mod_lt _ hpos
    have := hno _ hj
    have e1 : (s + (e + es.length - s) % es.length) % es.length = e := by
      rw [Nat.add_mod, Nat.mod_mod, ← Nat.add_mod, show s + (e + es.length - s) = e + es.length by omega, Nat.add_mod_right, Nat.mod_eq_of_lt h1]
    rw [e1] at this
    omega
  have hm : (s + k) % es.length < es.length := Nat.mod_lt _ hpos
  have hz5 := hE H5 c05
  have ixe := fun H0 : Heap => slc_idx (r := rEdge) (H1 := H0) (sz := 4) (i := (s + k) % es.length) (k := .i64) rfl hz5 hm
  have ee := edge_el hz5 hm
  have hw1 : IntKind.i64.wrap ((s : Int) + k) = ((s + k : Nat) : Int) := by rw [wrap64 (by omega) (by omega)]; omega
  have hr : abin .rem (.int .i64 ((s + k : Nat) : Int)) (.int .i64 (es.length : Int)) = some (.int .i64 (((s + k) % es.length : Nat) : Int)) := by
    rw [abin_rem (by omega), Int.tmod_eq_emod_of_nonneg (by omega)]; rfl
  simp (maxSteps := 4000000) (disch := omega) only [Zq, evO, vbox, wr, Zeq, if_true, if_false, Nat.reduceEqDiff, Nat.reduceAdd, Nat.reduceLeDiff, Nat.reduceSub, and_self, and_true, true_and, reduceIte, reduceCtorEq, eq_self, implies_true, forall_const, false_implies, imp_self, decide_true, decide_false, fix_nil, fix_cons, g1, g2, t0, t3, t5, t11, g3, g4, t12, t13, t10, t9, g5, lv, hw1, hr, ixe, ee]
  have u5 := u4.chg k5
  refine GO_call ((r_spec_l02Other (ed es ((s + k) % es.length)) (a : Int)).mono ?_)
  rintro _ H6 ⟨k6, rfl⟩
  have n6 := k6.nxt
  have g6 := (k6.get (H.nxt) (by omega)).trans g5
  by_cases ho : 0 ≤ oth (ed es ((s + k) % es.length)) a
  rotate_left
  · simp (maxSteps := 4000000) (disch := omega) only [Zq, evO, vbox, wr, Zeq, if_true, if_false, Nat.reduceEqDiff, Nat.reduceAdd, Nat.reduceLeDiff, Nat.reduceSub, and_self, and_true, true_and, reduceIte, reduceCtorEq, eq_self, implies_true, forall_const, false_implies, imp_self, decide_true, decide_false, fix_nil, fix_cons, g1, g2, t0, t3, t5, t11, g3, g4, t12, t13, t10, t9, g5, g6, Zfk ho]
    exact ⟨hkn, k5.trans k6, fun j hj => by
      by_cases e : j = k
      · subst e; omega
      · exact hno j (by omega)⟩
  have u6 := u5.chg k6
  have c06 := c05.trans k6.chg
  have o6 := NewF.keep o4 (k5.trans k6)
  have hwb6 := NewF.blks o6
  have hcn := c06.nxt
  obtain ⟨u, H7, e7, o7, kk7, n7, ap7, bk7⟩ := NewF.one2 (bytes := 8) (y := (((s + k) % es.length : Nat) : Int)) (fZ_len .i64) (by omega) o6 (by simp)
  simp only [fZ] at e7
  have u7 : Cur B v code H7 p := cur_ch (G := [blk w]) u6 n7 (fun a ha hm => ap7 a ha (by simpa using hm)) (fun a ha => by simp at ha; have := c.2.1; omega) (by simp; omega)
  have c07 : Chg [p] H H7 := ⟨by omega, fun a ha hm => (ap7 a (by omega) (by omega)).trans (c06.get a ha hm)⟩
  have g7 := (ap7 H.nxt (by omega) (by omega)).trans g6
  simp (maxSteps := 4000000) (disch := omega) only [Zq, evO, vbox, wr, Zeq, if_true, if_false, Nat.reduceEqDiff, Nat.reduceAdd, Nat.reduceLeDiff, Nat.reduceSub, and_self, and_true, true_and, reduceIte, reduceCtorEq, eq_self, implies_true, forall_const, false_implies, imp_self, decide_true, decide_false, fix_nil, fix_cons, g1, g2, t0, t3, t5, t11, g3, g4, t12, t13, t10, t9, g5, g6, g7, Zfj ho, e7]
  exact ⟨by omega, rfl, c07, u7, by omega, .inr ⟨(s + k) % es.length, u, hm, ho, rfl, o7⟩⟩
end
end Go.Proofs.Ytjjglonmaajjoaa.AX
