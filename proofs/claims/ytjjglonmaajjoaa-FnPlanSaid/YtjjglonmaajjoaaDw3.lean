/- Drawn trips. No condition beyond each law's own; of the program: the functions' forms. -/
import Derived.Test.YtjjglonmaajjoaaDw2
namespace Go.Proofs.Ytjjglonmaajjoaa.AX
open Go
set_option maxRecDepth 10000
set_option maxHeartbeats 4000000
set_option linter.unusedSimpArgs false
set_option linter.unusedVariables false
/-- Calls that are right so far, and where and when the trip goes on. -/
def CI (es : List Ed) (N : Nat) (cs : List Cl) (a m : Nat) : Prop := a < N ∧ N ≤ 5 ∧ (∀ k, k < cs.length → clOk cs k = true) ∧ (∀ k, k + 1 < cs.length → 0 ≤ jn es (cl cs k).1 (cl cs (k + 1)).1) ∧ m ≤ 120 + 20 * cs.length ∧ (0 < cs.length → (cl cs (cs.length - 1)).2.2 < m ∧ (cl cs (cs.length - 1)).1 ≠ a ∧ 0 ≤ jn es (cl cs (cs.length - 1)).1 a)
theorem cl_app {cs : List Cl} {c : Cl} {k : Nat} (h : k < cs.length) : cl (cs ++ [c]) k = cl cs k := by
  rw [cl, cl, List.getD_eq_getElem?_getD, List.getElem?_append_left h, List.getD_eq_getElem?_getD]
theorem cl_last {cs : List Cl} {c : Cl} : cl (cs ++ [c]) cs.length = c := by
  rw [cl, List.getD_eq_getElem?_getD, List.getElem?_append_right (Nat.le_refl _), Nat.sub_self]; rfl
theorem CI_step {es : List Ed} {N a m d d2 b : Nat} {cs : List Cl} {n : Int} (h : CI es N cs a m) (hN : (N : Int) = n) (hl : cs.length ≤ 8) (hd : d ≤ 3) (hd2 : d2 ≤ 13) (hb : b < N) (hab : b ≠ a) (hj : 0 ≤ jn es a b) : CI es N (cs ++ [((a : Int), (m : Int), ((m + d : Nat) : Int))]) b (m + d + 2 + d2) := by
  obtain ⟨h1, h2, h3, h4, h5, h6⟩ := h
  have hlen : (cs ++ [((a : Int), (m : Int), ((m + d : Nat) : Int))]).length = cs.length + 1 := by simp
  refine ⟨hb, h2, fun k hk => ?_, fun k hk => ?_, by rw [hlen]; omega, fun _ => ?_⟩
  · rw [hlen] at hk
    by_cases e : k = cs.length
    · subst e
      rw [clOk, cl_last]
      simp only []
      rw [inR_t (by omega), inR_t (by omega), inR_t (by omega)]
      simp only [Bool.true_and, Bool.not_eq_true', Bool.and_eq_false_iff, decide_eq_false_iff_not]
      by_cases e0 : 0 < cs.length
      · right
        obtain ⟨q1, q2, q3⟩ := h6 e0
        rw [clB, cl_last, cl_app (by omega)]
        simp only [Bool.or_eq_false_iff, decide_eq_false_iff_not]
        exact ⟨by omega, fun h => q2 h.symm⟩
      · exact .inl e0
    · have := h3 k (by omega)
      rw [clOk, clB] at this ⊢
      rw [cl_app (by omega), cl_app (k := k - 1) (by omega)]
      exact this
  · rw [hlen] at hk
    by_cases e : k + 1 = cs.length
    · rw [e, cl_last, cl_app (by omega)]
      have := (h6 (by omega)).2.2
      rw [show cs.length - 1 = k by omega] at this
      exact this
    · rw [cl_app (by omega), cl_app (by omega)]
      exact h4 k (by omega)
  · rw [hlen, Nat.add_sub_cancel, cl_last]
    exact ⟨by simp only []; omega, by simp only []; omega, hj⟩
theorem nil_ownc {α : Type} {r : Rep α} {H : Heap} : (rSlc r).own H [.slice none 0 0] [] [] := .inl ⟨rfl, rfl, rfl⟩
section
variable {B : Heap} {v : Value} {code : List Int} {p : Nat} {H : Heap}
theorem r_spec_l08DrawTrip {vn : Value} {es : List Ed} {N : Nat} (hb : Bts' B v code) (hl : code.length ≤ 1048576) (hc : ∀ x ∈ code, 0 ≤ x ∧ x ≤ 255) (c : Cur B v code H p) {Fn : List Nat} (oE : (rSlc rEdge).own H [vn] es Fn) (hpF : p ∉ Fn) (hel : es.length ≤ 60) (hok : ∀ i, i < es.length → edOk N (ed es i) = true) (hon : allOn N es) (hN2 : 2 ≤ N) (hN5 : N ≤ 5) : Run Try.prog 103 [ptr p 0, .agg #[.int .i64 (N : Int), vn], .int .i64 4] H fun r H' => Chg [p] H H' ∧ Cur B v code H' p ∧ ∃ s wv cs F, r = .agg #[.string s, wv] ∧ (rSlc rCall).own H' [wv] cs F ∧ F.Nodup ∧ (∀ a ∈ F, H.nxt ≤ a) ∧ tpOk (s, cs) = true ∧ rdTrip es cs = true ∧ cs.length ≤ 4 := by
  have hE : ∀ H', Chg [p] H H' → (rSlc rEdge).own H' [vn] es Fn := fun H' cc => (rSlc rEdge).ownChg oE cc (fun a ha hm => by simp at hm; subst hm; exact hpF ha)
  have pl := c.2.2.1
  refine Run.intro c103 rfl ?_
  simp (maxSteps := 4000000) (disch := omega) only [Zq, evO, vbox, wr, Zeq, if_true, if_false, Nat.reduceEqDiff, Nat.reduceAdd, Nat.reduceLeDiff, Nat.reduceSub, and_self, and_true, true_and, reduceIte, reduceCtorEq, eq_self, implies_true, forall_const, false_implies, imp_self, decide_true, decide_false, x103]
  generalize hG1 : (H.push [.int .i64 (N : Int), vn]).push [.string ⟨#[]⟩, .slice none 0 0] = H1
  have k1 : Keep H H1 := by rw [← hG1]; exact Keep.push' (Keep.push' (Keep.refl _))
  have n1 : H1.nxt = H.nxt + 2 := by rw [← hG1]; simp only [Zbg]
  have g1 : H1.get H.nxt = some (.own [.int .i64 (N : Int), vn]) := by rw [← hG1, push_get', if_neg (by rw [Zbg]; omega), push_get', if_pos rfl]
  have g1b : H1.get (H.nxt + 1) = some (.own [.string ⟨#[]⟩, .slice none 0 0]) := by rw [← hG1, push_get', if_pos (by rw [Zbg])]
  clear hG1
  refine GO_call ((r_spec_l08DrawName hb hl hc (c.chg k1)).mono ?_)
  rintro _ H2 ⟨c2, u2, s, rfl, hnm⟩
  have n2 := c2.nxt
  have g2 := (c2.get H.nxt (by omega) (by simp; omega)).trans g1
  have g2b := (c2.get (H.nxt + 1) (by omega) (by simp; omega)).trans g1b
  simp (maxSteps := 4000000) (disch := omega) only [Zq, evO, vbox, wr, Zeq, if_true, if_false, Nat.reduceEqDiff, Nat.reduceAdd, Nat.reduceLeDiff, Nat.reduceSub, and_self, and_true, true_and, reduceIte, reduceCtorEq, eq_self, implies_true, forall_const, false_implies, imp_self, decide_true, decide_false, fix_nil, fix_cons, g1, g1b, g2, g2b]
  generalize hG3 : (H2.push [.string ⟨#[]⟩, .slice none 0 0]).set H2.nxt [.string s, .slice none 0 0] = H3
  have k3 : Keep H2 H3 := by rw [← hG3]; repeat' (first | exact Keep.refl _ | assumption | refine Keep.push' ?_ | refine Keep.set' ?_ ?_ | refine Keep.moved' ?_ ?_ | omega)
  have g3 : H3.get H2.nxt = some (.own [.string s, .slice none 0 0]) := by rw [← hG3, Zbi, if_pos rfl]
  have n3 : H3.nxt = H2.nxt + 1 := by rw [← hG3, Zbh, Zbg]
  have g3n := (k3.get H.nxt (by omega)).trans g2
  have g3b := (k3.get (H.nxt + 1) (by omega)).trans g2b
  have u3 := u2.chg k3
  refine GO_call ((r_spec_l01Below hb hl hc u3 (by omega : 1 ≤ N) (by omega)).mono ?_)
  rintro _ H4 ⟨c4, u4, a0, rfl, ha0⟩
  have n4 := c4.nxt
  have g4 := (c4.get H2.nxt (by omega) (by simp; omega)).trans g3
  have g4n := (c4.get H.nxt (by omega) (by simp; omega)).trans g3n
  have g4b := (c4.get (H.nxt + 1) (by omega) (by simp; omega)).trans g3b
  simp (maxSteps := 4000000) (disch := omega) only [Zq, evO, vbox, wr, Zeq, if_true, if_false, Nat.reduceEqDiff, Nat.reduceAdd, Nat.reduceLeDiff, Nat.reduceSub, and_self, and_true, true_and, reduceIte, reduceCtorEq, eq_self, implies_true, forall_const, false_implies, imp_self, decide_true, decide_false, fix_nil, fix_cons, g1, g1b, g2, g2b, g3, g3n, g3b, g4, g4n, g4b]
  refine GO_call ((r_spec_l01Below (n := 120) hb hl hc u4 (by omega) (by omega)).mono ?_)
  rintro _ H5 ⟨c5, u5, m0, rfl, hm0⟩
  have n5 := c5.nxt
  have g5 := (c5.get H2.nxt (by omega) (by simp; omega)).trans g4
  have g5n := (c5.get H.nxt (by omega) (by simp; omega)).trans g4n
  have g5b := (c5.get (H.nxt + 1) (by omega) (by simp; omega)).trans g4b
  simp (maxSteps := 4000000) (disch := omega) only [Zq, evO, vbox, wr, Zeq, if_true, if_false, Nat.reduceEqDiff, Nat.reduceAdd, Nat.reduceLeDiff, Nat.reduceSub, and_self, and_true, true_and, reduceIte, reduceCtorEq, eq_self, implies_true, forall_const, false_implies, imp_self, decide_true, decide_false, fix_nil, fix_cons, g1, g1b, g2, g2b, g3, g3n, g3b, g4, g4n, g4b, g5, g5n, g5b]
  refine GO_call ((r_spec_l01Below (n := 3) hb hl hc u5 (by omega) (by omega)).mono ?_)
  rintro _ H6 ⟨c6, u6, z6, rfl, hz6⟩
  have n6 := c6.nxt
  have g6 := (c6.get H2.nxt (by omega) (by simp; omega)).trans g5
  have g6n := (c6.get H.nxt (by omega) (by simp; omega)).trans g5n
  have g6b := (c6.get (H.nxt + 1) (by omega) (by simp; omega)).trans g5b
  have cH6 : Chg [p] H H6 := k1.chg.trans (c2.trans (k3.chg.trans (c4.trans (c5.trans c6))))
  have hw0 : IntKind.i64.wrap (2 + (z6 : Int)) = ((2 + z6 : Nat) : Int) := by rw [wrap64 (by omega) (by omega)]; omega
  simp (maxSteps := 4000000) (disch := omega) only [Zq, evO, vbox, wr, Zeq, if_true, if_false, Nat.reduceEqDiff, Nat.reduceAdd, Nat.reduceLeDiff, Nat.reduceSub, and_self, and_true, true_and, reduceIte, reduceCtorEq, eq_self, implies_true, forall_const, false_implies, imp_self, decide_true, decide_false, fix_nil, fix_cons, g1, g1b, g2, g2b, g3, g3n, g3b, g4, g4n, g4b, g5, g5n, g5b, g6, g6n, g6b, hw0]
  refine G_loopF [0, 4, 6, 7] ((2 + z6)) (fun j T H7 => T 10 = .int .i64 (j : Int) ∧ ∃ (a m : Nat) (wv : Value) (cs : List Cl) (F : List Nat), T 8 = .int .i64 (a : Int) ∧ T 9 = .int .i64 (m : Int) ∧ Chg [p, H2.nxt] H6 H7 ∧ Cur B v code H7 p ∧ H7.get H2.nxt = some (.own [.string s, wv]) ∧ (rSlc rCall).own H7 [wv] cs F ∧ F.Nodup ∧ (∀ x ∈ F, H6.nxt ≤ x) ∧ CI es N cs a m ∧ cs.length + j = 2 + z6) ?_ ?_
  · simp (maxSteps := 4000000) (disch := omega) only [Zq, evO, vbox, wr, Zeq, if_true, if_false, Nat.reduceEqDiff, Nat.reduceAdd, Nat.reduceLeDiff, Nat.reduceSub, and_self, and_true, true_and, reduceIte, reduceCtorEq, eq_self, implies_true, forall_const, false_implies, imp_self, decide_true, decide_false, fix_nil, fix_cons, g1, g1b, g2, g2b, g3, g3n, g3b, g4, g4n, g4b, g5, g5n, g5b, g6, g6n, g6b, g6]
    exact ⟨a0, m0, _, [], [], rfl, rfl, Chg.refl _ _, u6, rfl, nil_ownc, by simp, by simp, ⟨ha0, hN5, fun k hk => by simp at hk, fun k hk => by simp at hk, by simp; omega, fun h => by simp at h⟩, by simp⟩
  rintro j T H7 hT ⟨t10, a, m, wv, cs, F, t8, t9, c7, u7, g7, o7, nd7, f7, ci, hlen⟩
  simp only [fix_nil, fix_cons, Zq, evO, vbox, wr, Zeq, if_true, if_false, Nat.reduceEqDiff, Nat.reduceAdd, Nat.reduceLeDiff, Nat.reduceSub, and_self, and_true, true_and, reduceIte, reduceCtorEq, eq_self, implies_true, forall_const, false_implies, imp_self, decide_true, decide_false] at hT
  obtain ⟨t0, t4, t6, t7⟩ := hT
  have n7 := c7.nxt
  have g7n := (c7.get H.nxt (by omega) (by simp; omega)).trans g6n
  have g7b := (c7.get (H.nxt + 1) (by omega) (by simp; omega)).trans g6b
  have pl6 := u6.2.2.1
  obtain ⟨x1, x2⟩ := slc_cell ((rSlc rCall).ownrd o7)
  have cH7 : Chg [p] H H7 := ⟨by have := cH6.nxt; omega, fun x hx hm => by simp at hm; exact (c7.get x (by have := cH6.nxt; omega) (by simp; omega)).trans (cH6.get x hx (by simp; omega))⟩
  by_cases hj : (0 : Int) < j
  rotate_left
  · have hl2 : cs.length = 2 + z6 := by omega
    simp (maxSteps := 4000000) (disch := omega) only [Zq, evO, vbox, wr, Zeq, if_true, if_false, Nat.reduceEqDiff, Nat.reduceAdd, Nat.reduceLeDiff, Nat.reduceSub, and_self, and_true, true_and, reduceIte, reduceCtorEq, eq_self, implies_true, forall_const, false_implies, imp_self, decide_true, decide_false, fix_nil, fix_cons, g1, g1b, g2, g2b, g3, g3n, g3b, g4, g4n, g4b, g5, g5n, g5b, g6, g6n, g6b, t0, t4, t6, t7, t10, t8, t9, g7, g7n, g7b, Zfi hj, x1, x2]
    obtain ⟨a1, a2, a3, a4, a5, a6⟩ := ci
    refine ⟨⟨by rw [Zbh]; omega, fun x hx hm => by rw [Zbi, if_neg (by omega)]; exact cH7.get x hx hm⟩, cur_ch (G := [H.nxt + 1]) u7 (by rw [Zbh]; exact Nat.le_refl _) (fun x hx hm => by rw [Zbi, if_neg (by simpa using hm)]) (fun x hx => by simp at hx; have := c.2.1; omega) (by simp; omega), s, wv, cs, F, rfl, (rSlc rCall).ownk o7 (by rw [Zbh]; exact Nat.le_refl _) (fun x hx => by rw [Zbi, if_neg (by have := f7 x hx; omega)]), nd7, fun x hx => by have := f7 x hx; omega, ?_, ?_, by omega⟩
    · rw [tpOk, hnm, Bool.true_and]
      simp only []
      rw [inR_t (by omega), Bool.true_and, allTo_iff]
      exact a3
    · rw [rdTrip, allTo_iff]
      intro k hk
      rw [rdLeg]
      exact decide_eq_true (a4 k (by omega))
  obtain ⟨a1, a2, a3, a4, a5, a6⟩ := ci
  have ci : CI es N cs a m := ⟨a1, a2, a3, a4, a5, a6⟩
  simp (maxSteps := 4000000) (disch := omega) only [Zq, evO, vbox, wr, Zeq, if_true, if_false, Nat.reduceEqDiff, Nat.reduceAdd, Nat.reduceLeDiff, Nat.reduceSub, and_self, and_true, true_and, reduceIte, reduceCtorEq, eq_self, implies_true, forall_const, false_implies, imp_self, decide_true, decide_false, fix_nil, fix_cons, g1, g1b, g2, g2b, g3, g3n, g3b, g4, g4n, g4b, g5, g5n, g5b, g6, g6n, g6b, t0, t4, t6, t7, t10, t8, t9, g7, g7n, g7b, Zfh hj]
  refine GO_call ((r_spec_l01Below (n := 4) hb hl hc u7 (by omega) (by omega)).mono ?_)
  rintro _ H8 ⟨c8, u8, dd, rfl, hdd⟩
  have n8 := c8.nxt
  have g8 := (c8.get H2.nxt (by omega) (by simp; omega)).trans g7
  have g8n := (c8.get H.nxt (by omega) (by simp; omega)).trans g7n
  have o8 := (rSlc rCall).ownChg o7 c8 (fun x hx hm => by have := f7 x hx; simp at hm; omega)
  have hw1 : IntKind.i64.wrap ((m : Int) + dd) = ((m + dd : Nat) : Int) := by rw [wrap64 (by omega) (by omega)]; omega
  obtain ⟨u, H9, F9, e9, o9, c9, f9, nd9, _⟩ := own_app (bytes := 24) (r := rCall) (sz := 3) rfl (by omega) o8 (row := [.int .i64 (a : Int), .int .i64 (m : Int), .int .i64 ((m + dd : Nat) : Int)]) (y := ((a : Int), (m : Int), ((m + dd : Nat) : Int))) (G := []) ⟨rfl, rfl⟩ nd7 (by simp) (by simp) (by omega)
  have n9 := c9.nxt
  have f9' : ∀ x ∈ F9, H6.nxt ≤ x := fun x hx => by
    rcases f9 x hx with h | h | h
    · exact f7 x h
    · cases h
    · omega
  have g9 := (c9.get H2.nxt (by omega) (fun h => by have := f7 _ h; omega)).trans g8
  have g9n := (c9.get H.nxt (by omega) (fun h => by have := f7 _ h; omega)).trans g8n
  obtain ⟨y1, y2⟩ := slc_cell ((rSlc rCall).ownrd o9)
  have hw2 : IntKind.i64.wrap (((m + dd : Nat) : Int) + 2) = ((m + dd + 2 : Nat) : Int) := by rw [wrap64 (by omega) (by omega)]; omega
  simp (maxSteps := 4000000) (disch := omega) only [Zq, evO, vbox, wr, Zeq, if_true, if_false, Nat.reduceEqDiff, Nat.reduceAdd, Nat.reduceLeDiff, Nat.reduceSub, and_self, and_true, true_and, reduceIte, reduceCtorEq, eq_self, implies_true, forall_const, false_implies, imp_self, decide_true, decide_false, fix_nil, fix_cons, g1, g1b, g2, g2b, g3, g3n, g3b, g4, g4n, g4b, g5, g5n, g5b, g6, g6n, g6b, t0, t4, t6, t7, t10, t8, t9, g7, g7n, g7b, g8, g8n, g9, g9n, hw1, e9, y1, y2, hw2]
  obtain ⟨H10, hG10⟩ : ∃ H10, H10 = H9.set H2.nxt [.string s, u] := ⟨_, rfl⟩
  rw [← hG10]
  have n10 : H10.nxt = H9.nxt := by rw [hG10, Zbh]
  have get10 : ∀ x, x ≠ H2.nxt → H10.get x = H9.get x := fun x hx => by rw [hG10, Zbi, if_neg hx]
  have g10 : H10.get H2.nxt = some (.own [.string s, u]) := by rw [hG10, Zbi, if_pos rfl]
  have g10n := (get10 H.nxt (by omega)).trans g9n
  have o10 := (rSlc rCall).ownk o9 (by omega : H9.nxt ≤ H10.nxt) (fun x hx => get10 x (by have := f9' x hx; omega))
  have u10 : Cur B v code H10 p := cur_ch (G := H2.nxt :: F) u8 (by omega) (fun x hx hm => by
    simp only [List.mem_cons, not_or] at hm
    exact (get10 x hm.1).trans (c9.get x hx hm.2)) (fun x hx => by
    have hB := u8.2.1
    have := u7.2.1
    have := c.2.1
    simp only [List.mem_cons] at hx
    rcases hx with h | h
    · omega
    · have := f7 x h; omega) (by
    simp only [List.mem_cons, not_or]
    exact ⟨by omega, fun h => by have := f7 _ h; omega⟩)
  have c10 : Chg [p, H2.nxt] H6 H10 := ⟨by omega, fun x hx hm => by
    simp only [List.mem_cons, List.not_mem_nil, or_false, not_or] at hm
    rw [get10 x hm.2, c9.get x (by omega) (fun h => by have := f7 x h; omega), c8.get x (by omega) (by simp; exact hm.1), c7.get x hx (by simp; exact hm)]⟩
  refine GO_call ((r_spec_l01Below (n := 14) hb hl hc u10 (by omega) (by omega)).mono ?_)
  rintro _ H11 ⟨c11, u11, d2, rfl, hd2⟩
  have n11 := c11.nxt
  have g11 := (c11.get H2.nxt (by omega) (by simp; omega)).trans g10
  have g11n := (c11.get H.nxt (by omega) (by simp; omega)).trans g10n
  have hw3 : IntKind.i64.wrap (((m + (dd + 2) : Nat) : Int) + d2) = ((m + (dd + (2 + d2)) : Nat) : Int) := by rw [wrap64 (by omega) (by omega)]; omega
  have hw4 : IntKind.i64.wrap ((a : Int) + 1) = ((a + 1 : Nat) : Int) := by rw [wrap64 (by omega) (by omega)]; omega
  have hw5 : IntKind.i64.wrap ((N : Int) - 1) = ((N - 1 : Nat) : Int) := by rw [wrap64 (by omega) (by omega)]; omega
  simp (maxSteps := 4000000) (disch := omega) only [Zq, evO, vbox, wr, Zeq, if_true, if_false, Nat.reduceEqDiff, Nat.reduceAdd, Nat.reduceLeDiff, Nat.reduceSub, and_self, and_true, true_and, reduceIte, reduceCtorEq, eq_self, implies_true, forall_const, false_implies, imp_self, decide_true, decide_false, fix_nil, fix_cons, g1, g1b, g2, g2b, g3, g3n, g3b, g4, g4n, g4b, g5, g5n, g5b, g6, g6n, g6b, t0, t4, t6, t7, t10, t8, t9, g7, g7n, g7b, g8, g8n, g9, g9n, g10, g10n, g11, g11n, hw3]
  simp (maxSteps := 4000000) (disch := omega) only [ZD, Zio, Zip, pre_, beq_self_eq_true, Nat.reduceBEq, Zq, evO, vbox, wr, Zeq, if_true, if_false, Nat.reduceEqDiff, Nat.reduceAdd, Nat.reduceLeDiff, Nat.reduceSub, and_self, and_true, true_and, reduceIte, reduceCtorEq, eq_self, implies_true, forall_const, false_implies, imp_self, decide_true, decide_false, fix_nil, fix_cons, g1, g1b, g2, g2b, g3, g3n, g3b, g4, g4n, g4b, g5, g5n, g5b, g6, g6n, g6b, t0, t4, t6, t7, t10, t8, t9, g7, g7n, g7b, g8, g8n, g9, g9n, g10, g10n, g11, g11n, G_dreg, hw4, hw5]
  refine GD_call ((r_spec_l01Below hb hl hc u11 (by omega : 1 ≤ N - 1) (by omega)).mono ?_)
  rintro _ H12 ⟨c12, u12, z12, rfl, hz12⟩
  have n12 := c12.nxt
  have g12 := (c12.get H2.nxt (by omega) (by simp; omega)).trans g11
  have g12n := (c12.get H.nxt (by omega) (by simp; omega)).trans g11n
  have old12 : ∀ z, (z ≠ p ∧ z < H11.nxt) → H12.get z = H11.get z := fun z hz => c12.get z hz.2 (by simp; exact hz.1)
  have hw6 : IntKind.i64.wrap (((a + 1 : Nat) : Int) + z12) = ((a + (1 + z12) : Nat) : Int) := by rw [wrap64 (by omega) (by omega)]; omega
  have hr : abin .rem (.int .i64 ((a + (1 + z12) : Nat) : Int)) (.int .i64 (N : Int)) = some (.int .i64 (((a + (1 + z12)) % N : Nat) : Int)) := by
    rw [abin_rem (by omega), Int.tmod_eq_emod_of_nonneg (by omega)]; rfl
  simp (maxSteps := 4000000) (disch := omega) only [ZD, Zio, Zip, pre_, beq_self_eq_true, Nat.reduceBEq, Zq, evO, vbox, wr, Zeq, if_true, if_false, Nat.reduceEqDiff, Nat.reduceAdd, Nat.reduceLeDiff, Nat.reduceSub, and_self, and_true, true_and, reduceIte, reduceCtorEq, eq_self, implies_true, forall_const, false_implies, imp_self, decide_true, decide_false, fix_nil, fix_cons, g1, g1b, g2, g2b, g3, g3n, g3b, g4, g4n, g4b, g5, g5n, g5b, g6, g6n, g6b, t0, t4, t6, t7, t10, t8, t9, g7, g7n, g7b, g8, g8n, g9, g9n, g10, g10n, g11, g11n, g12, g12n, hw6, hr]
  first | with_reducible refine And.intro (by repeat' (first | apply And.intro | omega | exact old12 _ (by omega))) ?_ | skip
  have c612 : Chg [p, H2.nxt] H6 H12 := ⟨by omega, fun x hx hm => by
    simp only [List.mem_cons, List.not_mem_nil, or_false, not_or] at hm
    rw [c12.get x (by omega) (by simp; exact hm.1), c11.get x (by omega) (by simp; exact hm.1), c10.get x hx (by simp; exact hm)]⟩
  have cH12 : Chg [p] H H12 := ⟨by have := cH6.nxt; omega, fun x hx hm => by simp at hm; exact (c612.get x (by have := cH6.nxt; omega) (by simp; omega)).trans (cH6.get x hx (by simp; omega))⟩
  refine GO_call ((r_spec_l02DrawWay (n := (N : Int)) hb hl hc u12 (hE H12 cH12) hpF hel hon a1).mono ?_)
  rintro rw13 H13 ⟨c13, u13, e, he1, he2, o13⟩
  have n13 := c13.nxt
  have g13 := (c13.get H2.nxt (by omega) (by simp; omega)).trans g12
  have g13n := (c13.get H.nxt (by omega) (by simp; omega)).trans g12n
  have cH13 := cH12.trans c13
  have hI : Ints H13 rw13 [(e : Int)] := NewF.intsK o13
  have lI : ∀ H : Heap, vlen H rw13 = some (.int .i64 1, H) := fun _ => IntsK.len_ hI
  have ixi : ∀ H0 : Heap, vidx H0 1 rw13 (.int .i64 0) = some (adr rw13 0 1 0, H0) := fun H0 => IntsK.idx (k' := .i64) (H1 := H0) (i := 0) hI (by simp)
  have ldi : vld1 H13 (adr rw13 0 1 0) = some (.int .i64 (e : Int), H13) := IntsK.ld (i := 0) hI (by simp)
  have hz13 := (rSlc rEdge).ownrd (hE H13 cH13)
  have ixe := fun H0 : Heap => slc_idx (r := rEdge) (H1 := H0) (sz := 4) (i := e) (k := .i64) rfl hz13 he1
  have ee := edge_el hz13 he1
  simp (maxSteps := 4000000) (disch := omega) only [Zq, evO, vbox, wr, Zeq, if_true, if_false, Nat.reduceEqDiff, Nat.reduceAdd, Nat.reduceLeDiff, Nat.reduceSub, and_self, and_true, true_and, reduceIte, reduceCtorEq, eq_self, implies_true, forall_const, false_implies, imp_self, decide_true, decide_false, fix_nil, fix_cons, g1, g1b, g2, g2b, g3, g3n, g3b, g4, g4n, g4b, g5, g5n, g5b, g6, g6n, g6b, t0, t4, t6, t7, t10, t8, t9, g7, g7n, g7b, g8, g8n, g9, g9n, g10, g10n, g11, g11n, g12, g12n, g13, g13n, lI]
  refine G_tame rfl ?_
  simp (maxSteps := 4000000) (disch := omega) only [Zq, evO, vbox, wr, Zeq, if_true, if_false, Nat.reduceEqDiff, Nat.reduceAdd, Nat.reduceLeDiff, Nat.reduceSub, and_self, and_true, true_and, reduceIte, reduceCtorEq, eq_self, implies_true, forall_const, false_implies, imp_self, decide_true, decide_false, fix_nil, fix_cons, g1, g1b, g2, g2b, g3, g3n, g3b, g4, g4n, g4b, g5, g5n, g5b, g6, g6n, g6b, t0, t4, t6, t7, t10, t8, t9, g7, g7n, g7b, g8, g8n, g9, g9n, g10, g10n, g11, g11n, g12, g12n, g13, g13n, ixi, ldi, ixe, ee]
  refine GO_call ((r_spec_l02Other (ed es e) (a : Int)).mono ?_)
  rintro _ H14 ⟨k14, rfl⟩
  have n14 := k14.nxt
  have g14 := (k14.get (H2.nxt) (by omega)).trans g13
  obtain ⟨j1, j2, j3⟩ := oth_jn he1 (hok e he1) he2
  obtain ⟨b, hbb⟩ : ∃ b : Nat, oth (ed es e) a = b := ⟨(oth (ed es e) a).toNat, by omega⟩
  rw [hbb] at j1 j2 j3 ⊢
  have c614 : Chg [p, H2.nxt] H6 H14 := ⟨by omega, fun x hx hm => by
    have hm' := hm
    simp only [List.mem_cons, List.not_mem_nil, or_false, not_or] at hm'
    rw [k14.get x (by omega), c13.get x (by omega) (by simp; exact hm'.1), c612.get x hx hm]⟩
  have o14 : (rSlc rCall).own H14 [u] (cs ++ [((a : Int), (m : Int), ((m + dd : Nat) : Int))]) F9 := (rSlc rCall).ownk o10 (by omega) (fun x hx => by
    have := f9' x hx
    have := (rSlc rCall).ownlt o10 x hx
    rw [k14.get x (by omega), c13.get x (by omega) (by simp; omega), c12.get x (by omega) (by simp; omega), c11.get x (by omega) (by simp; omega)])
  have hw7 : IntKind.i64.wrap ((j : Int) - 1) = ((j - 1 : Nat) : Int) := by rw [wrap64 (by omega) (by omega)]; omega
  simp (maxSteps := 4000000) (disch := omega) only [Zq, evO, vbox, wr, Zeq, if_true, if_false, Nat.reduceEqDiff, Nat.reduceAdd, Nat.reduceLeDiff, Nat.reduceSub, and_self, and_true, true_and, reduceIte, reduceCtorEq, eq_self, implies_true, forall_const, false_implies, imp_self, decide_true, decide_false, fix_nil, fix_cons, g1, g1b, g2, g2b, g3, g3n, g3b, g4, g4n, g4b, g5, g5n, g5b, g6, g6n, g6b, t0, t4, t6, t7, t10, t8, t9, g7, g7n, g7b, g8, g8n, g9, g9n, g10, g10n, g11, g11n, g12, g12n, g13, g13n, g14, hw7]
  exact ⟨j - 1, by omega, rfl, b, m + (dd + (2 + d2)), u, _, F9, rfl, rfl, c614, u13.chg k14, rfl, o14, nd9, f9', by have := CI_step ci rfl (by omega) (by omega : dd ≤ 3) (by omega : d2 ≤ 13) (by omega : b < N) (by omega) j1; rwa [show m + dd + 2 + d2 = m + (dd + (2 + d2)) by omega] at this, by simp; omega⟩
end
end Go.Proofs.Ytjjglonmaajjoaa.AX
