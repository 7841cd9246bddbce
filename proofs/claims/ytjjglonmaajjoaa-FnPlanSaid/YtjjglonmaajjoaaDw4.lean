/- Drawn timetables, nets, days. No condition beyond each law's own; of the program: the functions' forms. -/
import Derived.Test.YtjjglonmaajjoaaDw3
namespace Go.Proofs.Ytjjglonmaajjoaa.AX
open Go
set_option maxRecDepth 10000
set_option maxHeartbeats 4000000
set_option linter.unusedSimpArgs false
set_option linter.unusedVariables false
section
variable {B : Heap} {v : Value} {code : List Int} {p : Nat} {H : Heap}
def tkn (l : List Tp) (s : ByteArray) : Bool := l.any (fun t => t.1.toList == s.toList)
theorem r_spec_l08Taken {w : Value} {l : List Tp} {s : ByteArray} (h : (rSlc rTrip).rd H [w] l) (hl : l.length ≤ 1000) : Run Try.prog 104 [w, .string s] H fun r H' => Keep H H' ∧ r = .bool (tkn l s) := by
  have lw : ∀ H : Heap, vlen H w = some (.int .i64 l.length, H) := fun _ => slc_len h
  refine Run.intro c104 rfl ?_
  simp (maxSteps := 4000000) (disch := omega) only [Zq, evO, vbox, wr, Zeq, if_true, if_false, Nat.reduceEqDiff, Nat.reduceAdd, Nat.reduceLeDiff, Nat.reduceSub, and_self, and_true, true_and, reduceIte, reduceCtorEq, eq_self, implies_true, forall_const, false_implies, imp_self, decide_true, decide_false, x104]
  refine G_forF [0, 1] (l.length) (fun i T H1 => T 5 = .int .i64 (i : Int) ∧ Keep H H1 ∧ ∀ j, j < i → ((tp l j).1.toList == s.toList) = false) 0 (Nat.zero_le _) ?_ ?_
  · simp (maxSteps := 4000000) (disch := omega) only [Zq, evO, vbox, wr, Zeq, if_true, if_false, Nat.reduceEqDiff, Nat.reduceAdd, Nat.reduceLeDiff, Nat.reduceSub, and_self, and_true, true_and, reduceIte, reduceCtorEq, eq_self, implies_true, forall_const, false_implies, imp_self, decide_true, decide_false, fix_nil, fix_cons]
    exact ⟨Keep.refl _, fun j hj => by omega⟩
  rintro i T H1 hi hT ⟨t5, k1, hno⟩
  simp only [fix_nil, fix_cons, Zq, evO, vbox, wr, Zeq, if_true, if_false, Nat.reduceEqDiff, Nat.reduceAdd, Nat.reduceLeDiff, Nat.reduceSub, and_self, and_true, true_and, reduceIte, reduceCtorEq, eq_self, implies_true, forall_const, false_implies, imp_self, decide_true, decide_false] at hT
  obtain ⟨t0, t1⟩ := hT
  by_cases hin : i < l.length
  rotate_left
  · obtain rfl : i = l.length := by omega
    simp (maxSteps := 4000000) (disch := omega) only [Zq, evO, vbox, wr, Zeq, if_true, if_false, Nat.reduceEqDiff, Nat.reduceAdd, Nat.reduceLeDiff, Nat.reduceSub, and_self, and_true, true_and, reduceIte, reduceCtorEq, eq_self, implies_true, forall_const, false_implies, imp_self, decide_true, decide_false, fix_nil, fix_cons, t0, t1, t5, lw]
    have key : tkn l s = false := by
      rw [tkn, ← Bool.not_eq_true, List.any_eq_true]
      rintro ⟨t, ht, he⟩
      obtain ⟨j, hj, rfl⟩ := List.mem_iff_getElem.1 ht
      have := hno j hj
      rw [tp, getD_get _ _ hj, he] at this
      cases this
    exact ⟨k1, by rw [key]⟩
  obtain ⟨wc, hc, fc⟩ := trip_elK h hin
  have ixw := fun H0 : Heap => slc_idx (r := rTrip) (H1 := H0) (sz := 2) (i := i) (k := .i64) rfl h hin
  have fxw := fun (H0 : Heap) (o off : Nat) => slc_fad (r := rTrip) (H1 := H0) (sz := 2) (o := o) (off := off) rfl h hin
  have e1 := (fc H1 k1).2.1
  cases c1 : ((tp l i).1.toList == s.toList) with
  | true =>
    simp (maxSteps := 4000000) (disch := omega) only [Zq, evO, vbox, wr, Zeq, if_true, if_false, Nat.reduceEqDiff, Nat.reduceAdd, Nat.reduceLeDiff, Nat.reduceSub, and_self, and_true, true_and, reduceIte, reduceCtorEq, eq_self, implies_true, forall_const, false_implies, imp_self, decide_true, decide_false, fix_nil, fix_cons, t0, t1, t5, lw, ixw, fxw, e1, abin_seq, c1]
    have key : tkn l s = true := by
      rw [tkn, List.any_eq_true]
      exact ⟨tp l i, by rw [tp, getD_get _ _ hin]; exact List.getElem_mem hin, c1⟩
    exact ⟨k1, by rw [key]⟩
  | false =>
    simp (maxSteps := 4000000) (disch := omega) only [Zq, evO, vbox, wr, Zeq, if_true, if_false, Nat.reduceEqDiff, Nat.reduceAdd, Nat.reduceLeDiff, Nat.reduceSub, and_self, and_true, true_and, reduceIte, reduceCtorEq, eq_self, implies_true, forall_const, false_implies, imp_self, decide_true, decide_false, fix_nil, fix_cons, t0, t1, t5, lw, ixw, fxw, e1, abin_seq, c1]
    exact ⟨hin, k1, upto_no (i := i) (f := fun j => (tp l j).1.toList == s.toList) hno c1⟩
/-- A timetable that is right so far. -/
def TI (es : List Ed) (l : List Tp) : Prop := ∀ i, i < l.length → tbRow l i = true ∧ rdTrip es (tp l i).2 = true ∧ (tp l i).2.length ≤ 4
theorem tp_app {l : List Tp} {t : Tp} {k : Nat} (h : k < l.length) : tp (l ++ [t]) k = tp l k := by
  rw [tp, tp, List.getD_eq_getElem?_getD, List.getElem?_append_left h, List.getD_eq_getElem?_getD]
theorem tp_last {l : List Tp} {t : Tp} : tp (l ++ [t]) l.length = t := by
  rw [tp, List.getD_eq_getElem?_getD, List.getElem?_append_right (Nat.le_refl _), Nat.sub_self]; rfl
theorem TI_step {es : List Ed} {l : List Tp} {t : Tp} (h : TI es l) (h1 : tpOk t = true) (h2 : rdTrip es t.2 = true) (h3 : t.2.length ≤ 4) (h4 : tkn l t.1 = false) : TI es (l ++ [t]) := by
  intro i hi
  have hl : (l ++ [t]).length = l.length + 1 := by simp
  have row : ∀ (x : Tp) (k : Nat), k ≤ l.length → allTo k (nmNe (l ++ [t]) x.1) = allTo k (nmNe l x.1) := fun x k hk => by
    rw [Bool.eq_iff_iff, allTo_iff, allTo_iff]
    constructor
    · intro h j hj
      have := h j hj
      rw [nmNe, tp_app (by omega)] at this
      exact this
    · intro h j hj
      have := h j hj
      rw [nmNe, tp_app (by omega)]
      exact this
  by_cases e : i = l.length
  · subst e
    rw [tbRow, tp_last, row t _ (Nat.le_refl _)]
    refine ⟨?_, h2, h3⟩
    rw [h1, Bool.true_and, allTo_iff]
    intro j hj
    rw [nmNe]
    rw [tkn, ← Bool.not_eq_true, List.any_eq_true] at h4
    cases c : ((tp l j).1.toList == t.1.toList) with
    | false => rfl
    | true => exact absurd ⟨tp l j, by rw [tp, getD_get _ _ hj]; exact List.getElem_mem hj, c⟩ h4
  · have := h i (by omega)
    rw [tbRow, tp_app (by omega), row _ _ (by omega)]
    rw [tbRow] at this
    exact this
theorem r_spec_l08DrawTable {vn : Value} {es : List Ed} {N most : Nat} (hb : Bts' B v code) (hl : code.length ≤ 1048576) (hc : ∀ x ∈ code, 0 ≤ x ∧ x ≤ 255) (c : Cur B v code H p) {Fn : List Nat} (oE : (rSlc rEdge).own H [vn] es Fn) (hpF : p ∉ Fn) (hel : es.length ≤ 60) (hok : ∀ i, i < es.length → edOk N (ed es i) = true) (hon : allOn N es) (hN2 : 2 ≤ N) (hN5 : N ≤ 5) (hm1 : 1 ≤ most) (hm2 : most ≤ 6) : Run Try.prog 83 [ptr p 0, .agg #[.int .i64 (N : Int), vn], .int .i64 (most : Int)] H fun r H' => Chg [p] H H' ∧ Cur B v code H' p ∧ ∃ l F, (rSlc rTrip).own H' [r] l F ∧ F.Nodup ∧ (∀ a ∈ F, H.nxt ≤ a) ∧ TI es l ∧ l.length ≤ 6 := by
  have hE : ∀ H', Chg [p] H H' → (rSlc rEdge).own H' [vn] es Fn := fun H' cc => (rSlc rEdge).ownChg oE cc (fun a ha hm => by simp at hm; subst hm; exact hpF ha)
  have pl := c.2.2.1
  refine Run.intro c83 rfl ?_
  simp (maxSteps := 4000000) (disch := omega) only [Zq, evO, vbox, wr, Zeq, if_true, if_false, Nat.reduceEqDiff, Nat.reduceAdd, Nat.reduceLeDiff, Nat.reduceSub, and_self, and_true, true_and, reduceIte, reduceCtorEq, eq_self, implies_true, forall_const, false_implies, imp_self, decide_true, decide_false, x83]
  generalize hG1 : H.push [.int .i64 (N : Int), vn] = H1
  have k1 : Keep H H1 := by rw [← hG1]; exact Keep.push _ _
  have g1 : H1.get H.nxt = some (.own [.int .i64 (N : Int), vn]) := by rw [← hG1, push_get', if_pos rfl]
  have n1 : H1.nxt = H.nxt + 1 := by rw [← hG1, Zbg]
  have gp0 := GP.new (r := rTrip) (sz := 2) (c.chg k1) rfl
  generalize hG2 : H1.push [] = H2 at gp0
  have k2 : Keep H1 H2 := by rw [← hG2]; exact Keep.push _ _
  have g2 := (k2.get H.nxt (by omega)).trans g1
  clear hG2
  refine GO_call ((r_spec_l01Below hb hl hc gp0.cur hm1 (by omega)).mono ?_)
  rintro _ H3 ⟨c3, u3, z3, rfl, hz3⟩
  have n2 := k2.nxt
  have g3 := (c3.get H.nxt (by omega) (by simp; omega)).trans g2
  have gp3 := gp0.mv c3 u3
  have hw0 : IntKind.i64.wrap (1 + (z3 : Int)) = ((1 + z3 : Nat) : Int) := by rw [wrap64 (by omega) (by omega)]; omega
  rw [n1] at gp3
  simp (maxSteps := 4000000) (disch := omega) only [Zq, evO, vbox, wr, Zeq, if_true, if_false, Nat.reduceEqDiff, Nat.reduceAdd, Nat.reduceLeDiff, Nat.reduceSub, and_self, and_true, true_and, reduceIte, reduceCtorEq, eq_self, implies_true, forall_const, false_implies, imp_self, decide_true, decide_false, fix_nil, fix_cons, g1, g2, g3, hw0]
  refine G_loopF [0, 4] ((1 + z3)) (fun j T H4 => T 8 = .int .i64 (j : Int) ∧ ∃ (w : Value) (l : List Tp) (F : List Nat), T 7 = w ∧ H4.get H.nxt = some (.own [.int .i64 (N : Int), vn]) ∧ GP rTrip B v code p H1 H4 w l F ∧ TI es l ∧ l.length + j ≤ 1 + z3) ?_ ?_
  · simp (maxSteps := 4000000) (disch := omega) only [Zq, evO, vbox, wr, Zeq, if_true, if_false, Nat.reduceEqDiff, Nat.reduceAdd, Nat.reduceLeDiff, Nat.reduceSub, and_self, and_true, true_and, reduceIte, reduceCtorEq, eq_self, implies_true, forall_const, false_implies, imp_self, decide_true, decide_false, fix_nil, fix_cons, g1, g2, g3]
    exact ⟨_, [], _, rfl, gp3, fun i hi => by simp at hi, by simp⟩
  rintro j T H4 hT ⟨t8, w, l, F, t7, g4, gp4, ti, hlen⟩
  simp only [fix_nil, fix_cons, Zq, evO, vbox, wr, Zeq, if_true, if_false, Nat.reduceEqDiff, Nat.reduceAdd, Nat.reduceLeDiff, Nat.reduceSub, and_self, and_true, true_and, reduceIte, reduceCtorEq, eq_self, implies_true, forall_const, false_implies, imp_self, decide_true, decide_false] at hT
  obtain ⟨t0, t4⟩ := hT
  have nn := gp4.chg.nxt
  have pl1 := gp4.pl
  have cH4 : Chg [p] H H4 := k1.chg.trans gp4.chg
  by_cases hj : (0 : Int) < j
  rotate_left
  · obtain ⟨x1, x2⟩ := slc_cell ((rSlc rTrip).ownrd gp4.o)
    simp (maxSteps := 4000000) (disch := omega) only [Zq, evO, vbox, wr, Zeq, if_true, if_false, Nat.reduceEqDiff, Nat.reduceAdd, Nat.reduceLeDiff, Nat.reduceSub, and_self, and_true, true_and, reduceIte, reduceCtorEq, eq_self, implies_true, forall_const, false_implies, imp_self, decide_true, decide_false, fix_nil, fix_cons, g1, g2, g3, t0, t4, t8, t7, g4, Zfi hj, x1, x2]
    exact ⟨cH4, gp4.cur, l, F, gp4.o, gp4.nd, fun a ha => by have := gp4.fr a ha; omega, ti, by omega⟩
  simp (maxSteps := 4000000) (disch := omega) only [Zq, evO, vbox, wr, Zeq, if_true, if_false, Nat.reduceEqDiff, Nat.reduceAdd, Nat.reduceLeDiff, Nat.reduceSub, and_self, and_true, true_and, reduceIte, reduceCtorEq, eq_self, implies_true, forall_const, false_implies, imp_self, decide_true, decide_false, fix_nil, fix_cons, g1, g2, g3, t0, t4, t8, t7, g4, Zfh hj]
  refine GO_call ((r_spec_l08DrawTrip hb hl hc gp4.cur (hE H4 cH4) hpF hel hok hon hN2 hN5).mono ?_)
  rintro _ H5 ⟨c5, u5, s, wv, cs, G, rfl, oc5, ndG, fG, h1, h2, h3⟩
  have n5 := c5.nxt
  have gp5 := gp4.mv c5 u5
  have g5 := (c5.get H.nxt (by omega) (by simp; omega)).trans g4
  obtain ⟨y1, y2⟩ := slc_cell ((rSlc rCall).ownrd oc5)
  simp (maxSteps := 4000000) (disch := omega) only [Zq, evO, vbox, wr, Zeq, if_true, if_false, Nat.reduceEqDiff, Nat.reduceAdd, Nat.reduceLeDiff, Nat.reduceSub, and_self, and_true, true_and, reduceIte, reduceCtorEq, eq_self, implies_true, forall_const, false_implies, imp_self, decide_true, decide_false, fix_nil, fix_cons, g1, g2, g3, t0, t4, t8, t7, g4, g5, y1, y2]
  generalize hG6 : (H5.push [.string ⟨#[]⟩, .slice none 0 0]).set H5.nxt [.string s, wv] = H6
  have k6 : Keep H5 H6 := by rw [← hG6]; repeat' (first | exact Keep.refl _ | assumption | refine Keep.push' ?_ | refine Keep.set' ?_ ?_ | refine Keep.moved' ?_ ?_ | omega)
  have g6 : H6.get H5.nxt = some (.own [.string s, wv]) := by rw [← hG6, Zbi, if_pos rfl]
  have n6 : H6.nxt = H5.nxt + 1 := by rw [← hG6, Zbh, Zbg]
  have g6n := (k6.get H.nxt (by omega)).trans g5
  have gp6 := gp5.keep k6
  refine GO_call ((r_spec_l08Taken (s := s) ((rSlc rTrip).ownrd gp6.o) (by omega)).mono ?_)
  rintro _ H7 ⟨k7, rfl⟩
  have n7 := k7.nxt
  have g7 := (k7.get (H5.nxt) (by omega)).trans g6
  have g7n := (k7.get (H.nxt) (by omega)).trans g6n
  have gp7 := gp6.keep k7
  have oc7 := (rSlc rCall).ownKeep oc5 (k6.trans k7)
  have hw1 : IntKind.i64.wrap ((j : Int) - 1) = ((j - 1 : Nat) : Int) := by rw [wrap64 (by omega) (by omega)]; omega
  cases ht : tkn l s with
  | true =>
    simp (maxSteps := 4000000) (disch := omega) only [Zq, evO, vbox, wr, Zeq, if_true, if_false, Nat.reduceEqDiff, Nat.reduceAdd, Nat.reduceLeDiff, Nat.reduceSub, and_self, and_true, true_and, reduceIte, reduceCtorEq, eq_self, implies_true, forall_const, false_implies, imp_self, decide_true, decide_false, fix_nil, fix_cons, g1, g2, g3, t0, t4, t8, t7, g4, g5, g6, g6n, g7, g7n, hw1]
    exact ⟨j - 1, by omega, rfl, w, l, F, rfl, gp7, ti, by omega⟩
  | false =>
    have hF4 := (rSlc rTrip).ownlt gp4.o
    obtain ⟨u, H8, F8, e8, gp8, n8, old8⟩ := gp7.app (bytes := 40) (sz := 2) rfl (by omega) (row := [.string s, wv]) (y := ((s, cs) : Tp)) (G := G) (trip_own' oc7) ndG (fun a ha => ⟨by have := fG a ha; omega, fun h => by have := fG a ha; have := hF4 a h; omega⟩) (by omega)
    have g8n := (old8 H.nxt (by omega) (fun h => by have := gp4.fr _ h; omega)).trans g7n
    simp (maxSteps := 4000000) (disch := omega) only [Zq, evO, vbox, wr, Zeq, if_true, if_false, Nat.reduceEqDiff, Nat.reduceAdd, Nat.reduceLeDiff, Nat.reduceSub, and_self, and_true, true_and, reduceIte, reduceCtorEq, eq_self, implies_true, forall_const, false_implies, imp_self, decide_true, decide_false, fix_nil, fix_cons, g1, g2, g3, t0, t4, t8, t7, g4, g5, g6, g6n, g7, g7n, g8n, e8, hw1]
    exact ⟨j - 1, by omega, rfl, u, _, F8, rfl, gp8, TI_step ti h1 h2 h3 ht, by simp; omega⟩
/-- A net that is right so far. -/
def NI (N : Nat) (es : List Ed) (k : Nat) : Prop := (∀ i, i < es.length → edOk N (ed es i) = true) ∧ (2 ≤ k → ∀ a : Nat, a < k → ∃ e, e < es.length ∧ 0 ≤ oth (ed es e) a) ∧ es.length ≤ k
theorem ed_app {es : List Ed} {x : Ed} {k : Nat} (h : k < es.length) : ed (es ++ [x]) k = ed es k := by
  rw [ed, ed, List.getD_eq_getElem?_getD, List.getElem?_append_left h, List.getD_eq_getElem?_getD]
theorem ed_last {es : List Ed} {x : Ed} : ed (es ++ [x]) es.length = x := by
  rw [ed, List.getD_eq_getElem?_getD, List.getElem?_append_right (Nat.le_refl _), Nat.sub_self]; rfl
theorem NI_app {N : Nat} {es : List Ed} {k k' : Nat} {x : Ed} (h : NI N es k) (hx : edOk N x = true) (hk : k' = k ∨ k' = k + 1 ∧ ∃ b : Nat, x.1 = k ∧ x.2.1 = b ∧ b < k) (hl : es.length + 1 ≤ k') : NI N (es ++ [x]) k' := by
  obtain ⟨h1, h2, h3⟩ := h
  have hlen : (es ++ [x]).length = es.length + 1 := by simp
  refine ⟨fun i hi => ?_, fun h2k a ha => ?_, by rw [hlen]; exact hl⟩
  · rw [hlen] at hi
    by_cases e : i = es.length
    · rw [e, ed_last]; exact hx
    · rw [ed_app (by omega)]; exact h1 i (by omega)
  · have old : 2 ≤ k → a < k → ∃ e, e < (es ++ [x]).length ∧ 0 ≤ oth (ed (es ++ [x]) e) a := fun hk2 hak => by
      obtain ⟨e, he1, he2⟩ := h2 hk2 a hak
      exact ⟨e, by rw [hlen]; omega, by rw [ed_app he1]; exact he2⟩
    rcases hk with rfl | ⟨rfl, b, x1, x2, hb⟩
    · exact old h2k ha
    · by_cases e : a = k
      · refine ⟨es.length, by rw [hlen]; omega, ?_⟩
        rw [ed_last, oth, if_pos (by omega)]
        omega
      · by_cases hk2 : 2 ≤ k
        · exact old hk2 (by omega)
        · refine ⟨es.length, by rw [hlen]; omega, ?_⟩
          rw [ed_last, oth, if_neg (by omega), if_pos (by omega)]
          omega
end
end Go.Proofs.Ytjjglonmaajjoaa.AX
