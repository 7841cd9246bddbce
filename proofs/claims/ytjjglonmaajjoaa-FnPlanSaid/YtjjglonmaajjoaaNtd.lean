/- Timetables that are right: the program's test, with a closure, and the reference's. No condition beyond each law's own; of the program: the functions' forms. -/
import Derived.Test.YtjjglonmaajjoaaNtc
namespace Go.Proofs.Ytjjglonmaajjoaa.AX
open Go
set_option maxRecDepth 10000
set_option maxHeartbeats 4000000
set_option linter.unusedSimpArgs false
set_option linter.unusedVariables false
def nmNe (l : List Tp) (s : ByteArray) (k : Nat) : Bool := !((tp l k).1.toList == s.toList)
def tbRow (l : List Tp) (i : Nat) : Bool := tpOk (tp l i) && allTo i (nmNe l (tp l i).1)
def tbOk (l : List Tp) : Bool := decide (l.length ≤ 24) && allTo l.length (tbRow l)
theorem tbOk_bad {l : List Tp} {i : Nat} (hi : i < l.length) (h : tbRow l i = false) : tbOk l = false := by
  rw [tbOk, allTo_bad hi h, Bool.and_false]
theorem tp_tot {l : List Tp} {m : Nat} (h : (rSlc rTrip).tot l ≤ m) {i : Nat} (hi : i < l.length) : (tp l i).1.size ≤ m ∧ (tp l i).2.length ≤ m := by
  have h1 := tot_get (r := rTrip) hi
  have h2 : rTrip.tot l[i] = l[i].1.size + (rSlc rCall).tot l[i].2 := rfl
  rw [flat_tot] at h2
  rw [tp, getD_get _ _ hi]
  omega
theorem GO_calld_eq {P : Program} {d : Option Nat} {x : XArg} {f : FuncId} {cs : Array Value} {args : List XArg} {vs : List Value} {os : List XO} {ks : List Fr} {Q : XE → Tm → Heap → Prop} {T : Tm} {H : Heap} (e : ev T x = .func (.func f) #[] cs) (e2 : args.map (ev T) ++ cs.toList = vs) (h : Run P f vs H fun v H' => GO (CR P) os ks Q (put T d v) H') : GO (CR P) (⟨d, .calld x args, none⟩ :: os) ks Q T H := by
  subst e2
  exact GO_calld e h
theorem flat_take {sz : Nat} : ∀ {rows : List (List Value)} {i : Nat}, (∀ c ∈ rows, c.length = sz) → (rows.take i).flatten = rows.flatten.take (i * sz)
  | [], i, _ => by simp
  | c :: rows, 0, _ => by simp
  | c :: rows, i + 1, h => by
    have h1 := h c (by simp)
    have e : (c ++ rows.flatten).take ((i + 1) * sz) = c ++ rows.flatten.take (i * sz) := by
      rw [List.take_append, List.take_of_length_le (l := c) (by rw [h1, Nat.add_mul]; omega), h1, Nat.add_mul, Nat.one_mul, Nat.add_sub_cancel]
    rw [List.take_succ_cons, List.flatten_cons, List.flatten_cons, flat_take (fun d hd => h d (by simp [hd])), e]
/-- The front of a slice. -/
theorem slc_take {α : Type} {r : Rep α} {H : Heap} {v : Value} {xs : List α} {i sz : Nat} (hz : r.sz = sz) (h : (rSlc r).rd H [v] xs) (hi : i ≤ xs.length) : (rSlc r).rd H [subV v 0 i sz] (xs.take i) := by
  obtain ⟨w, rows, e, h1, hr⟩ := h
  obtain rfl : v = w := by simpa using e
  subst hz
  refine ⟨_, rows.take i, rfl, ?_, hr.take i⟩
  have := h1.sub (Nat.zero_le i) hi
  rw [Nat.zero_mul, List.drop_zero, Nat.sub_zero] at this
  rw [List.length_take, Nat.min_eq_left hi, flat_take hr.sz]
  exact this
theorem nmNe_take {l : List Tp} {s : ByteArray} {i k : Nat} (h : k < i) : nmNe (l.take i) s k = nmNe l s k := by
  rw [nmNe, nmNe, tp, tp, List.getD_eq_getElem?_getD, List.getD_eq_getElem?_getD, List.getElem?_take, if_pos h]
theorem row_take {l : List Tp} {i : Nat} (hi : i ≤ l.length) (s : ByteArray) : allTo (l.take i).length (nmNe (l.take i) s) = allTo i (nmNe l s) := by
  rw [List.length_take, Nat.min_eq_left hi, Bool.eq_iff_iff, allTo_iff, allTo_iff]
  exact ⟨fun h k hk => by rw [← nmNe_take (i := i) hk]; exact h k hk, fun h k hk => by rw [nmNe_take hk]; exact h k hk⟩
section
variable {H : Heap} {v : Value} {l : List Tp}
theorem r_named1 {p : Nat} {w : Value} {s t : ByteArray} (hp : p < H.nxt) (hg : H.get p = some (.own [.string s])) : Run Try.prog 127 [.agg #[.string t, w], ptr p 0] H fun r H' => Keep H H' ∧ r = .bool (t.toList == s.toList) := by
  refine Run.intro c127 rfl ?_
  simp (maxSteps := 4000000) (disch := omega) only [Zq, evO, vbox, wr, Zeq, if_true, if_false, Nat.reduceEqDiff, Nat.reduceAdd, Nat.reduceLeDiff, Nat.reduceSub, and_self, and_true, true_and, reduceIte, reduceCtorEq, eq_self, implies_true, forall_const, false_implies, imp_self, decide_true, decide_false, x127, hg, abin_seq]
  exact Keep.push _ _
theorem r_IndexFunc {p : Nat} {s : ByteArray} (hp : p < H.nxt) (hg : H.get p = some (.own [.string s])) (hr : (rSlc rTrip).rd H [v] l) (hl : l.length ≤ 1048576) : Run Try.prog 126 [v, .func (.func 127) #[] #[ptr p 0]] H fun r H' => Keep H H' ∧ ∃ z : Int, r = .int .i64 z ∧ decide (0 ≤ z) = !(allTo l.length (nmNe l s)) := by
  have lv : ∀ H : Heap, vlen H v = some (.int .i64 l.length, H) := fun _ => slc_len hr
  refine Run.intro c126 rfl ?_
  simp (maxSteps := 4000000) (disch := omega) only [Zq, evO, vbox, wr, Zeq, if_true, if_false, Nat.reduceEqDiff, Nat.reduceAdd, Nat.reduceLeDiff, Nat.reduceSub, and_self, and_true, true_and, reduceIte, reduceCtorEq, eq_self, implies_true, forall_const, false_implies, imp_self, decide_true, decide_false, x126, lv]
  refine G_forF [0, 1, 7] (l.length) (fun i T H1 => T 8 = .int .i64 (i : Int) ∧ Keep H H1 ∧ ∀ j, j < i → nmNe l s j = true) 0 (Nat.zero_le _) ?_ ?_
  · simp (maxSteps := 4000000) (disch := omega) only [Zq, evO, vbox, wr, Zeq, if_true, if_false, Nat.reduceEqDiff, Nat.reduceAdd, Nat.reduceLeDiff, Nat.reduceSub, and_self, and_true, true_and, reduceIte, reduceCtorEq, eq_self, implies_true, forall_const, false_implies, imp_self, decide_true, decide_false, fix_nil, fix_cons]
    exact ⟨Keep.refl _, fun j hj => by omega⟩
  rintro i T H1 hi hT ⟨t8, k1, ha⟩
  simp only [fix_nil, fix_cons, Zq, evO, vbox, wr, Zeq, if_true, if_false, Nat.reduceEqDiff, Nat.reduceAdd, Nat.reduceLeDiff, Nat.reduceSub, and_self, and_true, true_and, reduceIte, reduceCtorEq, eq_self, implies_true, forall_const, false_implies, imp_self, decide_true, decide_false] at hT
  obtain ⟨t0, t1, t7⟩ := hT
  have n1 := k1.nxt
  by_cases hin : i < l.length
  rotate_left
  · obtain rfl : i = l.length := by omega
    simp (maxSteps := 4000000) (disch := omega) only [Zq, evO, vbox, wr, Zeq, if_true, if_false, Nat.reduceEqDiff, Nat.reduceAdd, Nat.reduceLeDiff, Nat.reduceSub, and_self, and_true, true_and, reduceIte, reduceCtorEq, eq_self, implies_true, forall_const, false_implies, imp_self, decide_true, decide_false, fix_nil, fix_cons, t0, t1, t7, t8]
    exact ⟨k1, -1, rfl, by rw [allTo_iff.2 ha]; rfl⟩
  have ixe := fun H0 : Heap => slc_idx (r := rTrip) (H1 := H0) (sz := 2) (i := i) (k := .i64) rfl hr hin
  obtain ⟨w, e1, _⟩ := trip_el ((rSlc rTrip).rdk hr k1) hin
  simp (maxSteps := 4000000) (disch := omega) only [Zq, evO, vbox, wr, Zeq, if_true, if_false, Nat.reduceEqDiff, Nat.reduceAdd, Nat.reduceLeDiff, Nat.reduceSub, and_self, and_true, true_and, reduceIte, reduceCtorEq, eq_self, implies_true, forall_const, false_implies, imp_self, decide_true, decide_false, fix_nil, fix_cons, t0, t1, t7, t8, ixe, e1]
  refine GO_calld_eq (f := 127) (cs := #[ptr p 0]) (vs := [.agg #[.string (tp l i).1, w], ptr p 0]) (by simp (maxSteps := 4000000) (disch := omega) only [Zq, evO, vbox, wr, Zeq, if_true, if_false, Nat.reduceEqDiff, Nat.reduceAdd, Nat.reduceLeDiff, Nat.reduceSub, and_self, and_true, true_and, reduceIte, reduceCtorEq, eq_self, implies_true, forall_const, false_implies, imp_self, decide_true, decide_false, fix_nil, fix_cons, t0, t1, t7, t8]) (by simp (maxSteps := 4000000) (disch := omega) only [Zq, evO, vbox, wr, Zeq, if_true, if_false, Nat.reduceEqDiff, Nat.reduceAdd, Nat.reduceLeDiff, Nat.reduceSub, and_self, and_true, true_and, reduceIte, reduceCtorEq, eq_self, implies_true, forall_const, false_implies, imp_self, decide_true, decide_false, fix_nil, fix_cons, t0, t1, t7, t8]) ((r_named1 (by omega) ((k1.get p hp).trans hg)).mono ?_)
  rintro _ H2 ⟨k2, rfl⟩
  have k02 := k1.trans k2
  cases hc : ((tp l i).1.toList == s.toList) with
  | true =>
    simp (maxSteps := 4000000) (disch := omega) only [Zq, evO, vbox, wr, Zeq, if_true, if_false, Nat.reduceEqDiff, Nat.reduceAdd, Nat.reduceLeDiff, Nat.reduceSub, and_self, and_true, true_and, reduceIte, reduceCtorEq, eq_self, implies_true, forall_const, false_implies, imp_self, decide_true, decide_false, fix_nil, fix_cons, t0, t1, t7, t8, hc]
    exact ⟨k02, (i : Int), rfl, by rw [allTo_bad hin (by rw [nmNe, hc]; rfl), decide_eq_true (by omega)]; rfl⟩
  | false =>
    simp (maxSteps := 4000000) (disch := omega) only [Zq, evO, vbox, wr, Zeq, if_true, if_false, Nat.reduceEqDiff, Nat.reduceAdd, Nat.reduceLeDiff, Nat.reduceSub, and_self, and_true, true_and, reduceIte, reduceCtorEq, eq_self, implies_true, forall_const, false_implies, imp_self, decide_true, decide_false, fix_nil, fix_cons, t0, t1, t7, t8, hc]
    exact ⟨hin, k02, upto_succ ha (by rw [nmNe, hc]; rfl)⟩
theorem r_impl_tripNamed {s : ByteArray} (hr : (rSlc rTrip).rd H [v] l) (hl : l.length ≤ 1048576) : Run Try.prog 119 [v, .string s] H fun r H' => Keep H H' ∧ ∃ z : Int, r = .int .i64 z ∧ decide (0 ≤ z) = !(allTo l.length (nmNe l s)) := by
  refine Run.intro c119 rfl ?_
  simp (maxSteps := 4000000) (disch := omega) only [Zq, evO, vbox, wr, Zeq, if_true, if_false, Nat.reduceEqDiff, Nat.reduceAdd, Nat.reduceLeDiff, Nat.reduceSub, and_self, and_true, true_and, reduceIte, reduceCtorEq, eq_self, implies_true, forall_const, false_implies, imp_self, decide_true, decide_false, x119]
  generalize hG0 : H.push [.string s] = H0
  have k0 : Keep H H0 := by rw [← hG0]; exact Keep.push _ _
  have g0 : H0.get H.nxt = some (.own [.string s]) := by rw [← hG0, push_get', if_pos rfl]
  have n0 : H0.nxt = H.nxt + 1 := by rw [← hG0, Zbg]
  simp (maxSteps := 4000000) (disch := omega) only [Zq, evO, vbox, wr, Zeq, if_true, if_false, Nat.reduceEqDiff, Nat.reduceAdd, Nat.reduceLeDiff, Nat.reduceSub, and_self, and_true, true_and, reduceIte, reduceCtorEq, eq_self, implies_true, forall_const, false_implies, imp_self, decide_true, decide_false, fix_nil, fix_cons, g0, GO_clo, vclo_ptr]
  refine GO_call_eq (by (simp (maxSteps := 4000000) (disch := omega) only [Zq, evO, vbox, wr, Zeq, if_true, if_false, Nat.reduceEqDiff, Nat.reduceAdd, Nat.reduceLeDiff, Nat.reduceSub, and_self, and_true, true_and, reduceIte, reduceCtorEq, eq_self, implies_true, forall_const, false_implies, imp_self, decide_true, decide_false, fix_nil, fix_cons, g0]) <;> rfl) ((r_IndexFunc (p := H.nxt) (by omega) g0 ((rSlc rTrip).rdk hr k0) hl).mono ?_)
  rintro _ H1 ⟨k1, z, rfl, hz⟩
  simp (maxSteps := 4000000) (disch := omega) only [Zq, evO, vbox, wr, Zeq, if_true, if_false, Nat.reduceEqDiff, Nat.reduceAdd, Nat.reduceLeDiff, Nat.reduceSub, and_self, and_true, true_and, reduceIte, reduceCtorEq, eq_self, implies_true, forall_const, false_implies, imp_self, decide_true, decide_false, fix_nil, fix_cons, g0]
  exact ⟨k0.trans k1, z, rfl, hz⟩
theorem r_impl_TableOk (hr : (rSlc rTrip).rd H [v] l) (ht : (rSlc rTrip).tot l ≤ 1048576) : Run Try.prog 106 [v] H fun r H' => Keep H H' ∧ r = .bool (tbOk l) := by
  have lv : ∀ H : Heap, vlen H v = some (.int .i64 l.length, H) := fun _ => slc_len hr
  have hl := tot_len ht
  by_cases c0 : l.length ≤ 24
  rotate_left
  · refine Run.intro c106 rfl ?_
    simp (maxSteps := 4000000) (disch := omega) only [Zq, evO, vbox, wr, Zeq, if_true, if_false, Nat.reduceEqDiff, Nat.reduceAdd, Nat.reduceLeDiff, Nat.reduceSub, and_self, and_true, true_and, reduceIte, reduceCtorEq, eq_self, implies_true, forall_const, false_implies, imp_self, decide_true, decide_false, x106, lv]
    exact ⟨Keep.refl _, by rw [tbOk, decide_eq_false c0]; rfl⟩
  refine Run.intro c106 rfl ?_
  simp (maxSteps := 4000000) (disch := omega) only [Zq, evO, vbox, wr, Zeq, if_true, if_false, Nat.reduceEqDiff, Nat.reduceAdd, Nat.reduceLeDiff, Nat.reduceSub, and_self, and_true, true_and, reduceIte, reduceCtorEq, eq_self, implies_true, forall_const, false_implies, imp_self, decide_true, decide_false, x106, lv]
  refine G_forF [0, 8, 9] (l.length) (fun i T H1 => T 10 = .int .i64 (i : Int) ∧ Keep H H1 ∧ ∀ j, j < i → tbRow l j = true) 0 (Nat.zero_le _) ?_ ?_
  · simp (maxSteps := 4000000) (disch := omega) only [Zq, evO, vbox, wr, Zeq, if_true, if_false, Nat.reduceEqDiff, Nat.reduceAdd, Nat.reduceLeDiff, Nat.reduceSub, and_self, and_true, true_and, reduceIte, reduceCtorEq, eq_self, implies_true, forall_const, false_implies, imp_self, decide_true, decide_false, fix_nil, fix_cons]
    exact ⟨Keep.refl _, fun j hj => by omega⟩
  rintro i T H1 hi hT ⟨t10, k1, ha⟩
  simp only [fix_nil, fix_cons, Zq, evO, vbox, wr, Zeq, if_true, if_false, Nat.reduceEqDiff, Nat.reduceAdd, Nat.reduceLeDiff, Nat.reduceSub, and_self, and_true, true_and, reduceIte, reduceCtorEq, eq_self, implies_true, forall_const, false_implies, imp_self, decide_true, decide_false] at hT
  obtain ⟨t0, t8, t9⟩ := hT
  by_cases hin : i < l.length
  rotate_left
  · obtain rfl : i = l.length := by omega
    simp (maxSteps := 4000000) (disch := omega) only [Zq, evO, vbox, wr, Zeq, if_true, if_false, Nat.reduceEqDiff, Nat.reduceAdd, Nat.reduceLeDiff, Nat.reduceSub, and_self, and_true, true_and, reduceIte, reduceCtorEq, eq_self, implies_true, forall_const, false_implies, imp_self, decide_true, decide_false, fix_nil, fix_cons, t0, t8, t9, t10]
    exact ⟨k1, by rw [tbOk, decide_eq_true c0, allTo_iff.2 ha]; rfl⟩
  have ixe := fun H0 : Heap => slc_idx (r := rTrip) (H1 := H0) (sz := 2) (i := i) (k := .i64) rfl hr hin
  obtain ⟨w, e1, _, _, hw⟩ := trip_el ((rSlc rTrip).rdk hr k1) hin
  obtain ⟨s1, s2⟩ := tp_tot ht hin
  simp (maxSteps := 4000000) (disch := omega) only [Zq, evO, vbox, wr, Zeq, if_true, if_false, Nat.reduceEqDiff, Nat.reduceAdd, Nat.reduceLeDiff, Nat.reduceSub, and_self, and_true, true_and, reduceIte, reduceCtorEq, eq_self, implies_true, forall_const, false_implies, imp_self, decide_true, decide_false, fix_nil, fix_cons, t0, t8, t9, t10, ixe, e1]
  generalize hG2 : (H1.push [.string ⟨#[]⟩, .slice none 0 0]).set H1.nxt [.string (tp l i).1, w] = H2
  have k2 : Keep H1 H2 := by rw [← hG2]; repeat' (first | exact Keep.refl _ | assumption | refine Keep.push' ?_ | refine Keep.set' ?_ ?_ | refine Keep.moved' ?_ ?_ | omega)
  have g2 : H2.get H1.nxt = some (.own [.string (tp l i).1, w]) := by rw [← hG2, Zbi, if_pos rfl]
  have n2 : H2.nxt = H1.nxt + 1 := by rw [← hG2, Zbh, Zbg]
  refine G_tame rfl ?_
  simp (maxSteps := 4000000) (disch := omega) only [Zq, evO, vbox, wr, Zeq, if_true, if_false, Nat.reduceEqDiff, Nat.reduceAdd, Nat.reduceLeDiff, Nat.reduceSub, and_self, and_true, true_and, reduceIte, reduceCtorEq, eq_self, implies_true, forall_const, false_implies, imp_self, decide_true, decide_false, fix_nil, fix_cons, t0, t8, t9, t10, g2]
  refine GO_call ((r_impl_TripOk (t := tp l i) ((rSlc rCall).rdk hw k2) s1 s2).mono ?_)
  rintro _ H3 ⟨k3, rfl⟩
  have n3 := k3.nxt
  have g3 := (k3.get (H1.nxt) (by omega)).trans g2
  have k03 := k1.trans (k2.trans k3)
  cases c1 : tpOk (tp l i) with
  | false =>
    simp (maxSteps := 4000000) (disch := omega) only [Zq, evO, vbox, wr, Zeq, if_true, if_false, Nat.reduceEqDiff, Nat.reduceAdd, Nat.reduceLeDiff, Nat.reduceSub, and_self, and_true, true_and, reduceIte, reduceCtorEq, eq_self, implies_true, forall_const, false_implies, imp_self, decide_true, decide_false, fix_nil, fix_cons, t0, t8, t9, t10, g2, g3, c1]
    exact ⟨k03, by rw [tbOk_bad hin (by rw [tbRow, c1]; rfl)]⟩
  | true =>
  obtain ⟨w0, hsl⟩ := slc_sl (r := rTrip) (sz := 2) rfl hr
  have sub := fun H0 : Heap => hsl.slc_hi (H1 := H0) (k := .i64) (b := i) (by omega)
  simp (maxSteps := 4000000) (disch := omega) only [Zq, evO, vbox, wr, Zeq, if_true, if_false, Nat.reduceEqDiff, Nat.reduceAdd, Nat.reduceLeDiff, Nat.reduceSub, and_self, and_true, true_and, reduceIte, reduceCtorEq, eq_self, implies_true, forall_const, false_implies, imp_self, decide_true, decide_false, fix_nil, fix_cons, t0, t8, t9, t10, g2, g3, c1, sub]
  refine GO_call_eq (by (simp (maxSteps := 4000000) (disch := omega) only [Zq, evO, vbox, wr, Zeq, if_true, if_false, Nat.reduceEqDiff, Nat.reduceAdd, Nat.reduceLeDiff, Nat.reduceSub, and_self, and_true, true_and, reduceIte, reduceCtorEq, eq_self, implies_true, forall_const, false_implies, imp_self, decide_true, decide_false, fix_nil, fix_cons, t0, t8, t9, t10, g2, g3]) <;> rfl) ((r_impl_tripNamed (s := (tp l i).1) (slc_take (r := rTrip) (sz := 2) rfl ((rSlc rTrip).rdk hr k03) (Nat.le_of_lt hin)) (by simp; omega)).mono ?_)
  rintro _ H4 ⟨k4, z, rfl, hz⟩
  rw [row_take (Nat.le_of_lt hin)] at hz
  cases c2 : allTo i (nmNe l (tp l i).1) with
  | false =>
    rw [c2] at hz
    simp (maxSteps := 4000000) (disch := omega) only [Zq, evO, vbox, wr, Zeq, if_true, if_false, Nat.reduceEqDiff, Nat.reduceAdd, Nat.reduceLeDiff, Nat.reduceSub, and_self, and_true, true_and, reduceIte, reduceCtorEq, eq_self, implies_true, forall_const, false_implies, imp_self, decide_true, decide_false, fix_nil, fix_cons, t0, t8, t9, t10, g2, g3, hz, Bool.not_false]
    exact ⟨k03.trans k4, by rw [tbOk_bad hin (by rw [tbRow, c1, c2]; rfl)]⟩
  | true =>
    rw [c2] at hz
    simp (maxSteps := 4000000) (disch := omega) only [Zq, evO, vbox, wr, Zeq, if_true, if_false, Nat.reduceEqDiff, Nat.reduceAdd, Nat.reduceLeDiff, Nat.reduceSub, and_self, and_true, true_and, reduceIte, reduceCtorEq, eq_self, implies_true, forall_const, false_implies, imp_self, decide_true, decide_false, fix_nil, fix_cons, t0, t8, t9, t10, g2, g3, hz, Bool.not_true]
    exact ⟨hin, k03.trans k4, upto_succ ha (by rw [tbRow, c1, c2]; rfl)⟩
theorem r_spec_TableOk (hr : (rSlc rTrip).rd H [v] l) (ht : (rSlc rTrip).tot l ≤ 1048576) : Run Try.prog 101 [v] H fun r H' => Keep H H' ∧ r = .bool (tbOk l) := by
  have lv : ∀ H : Heap, vlen H v = some (.int .i64 l.length, H) := fun _ => slc_len hr
  have hl := tot_len ht
  by_cases c0 : l.length ≤ 24
  rotate_left
  · refine Run.intro c101 rfl ?_
    simp (maxSteps := 4000000) (disch := omega) only [Zq, evO, vbox, wr, Zeq, if_true, if_false, Nat.reduceEqDiff, Nat.reduceAdd, Nat.reduceLeDiff, Nat.reduceSub, and_self, and_true, true_and, reduceIte, reduceCtorEq, eq_self, implies_true, forall_const, false_implies, imp_self, decide_true, decide_false, x101, lv]
    exact ⟨Keep.refl _, by rw [tbOk, decide_eq_false c0]; rfl⟩
  refine Run.intro c101 rfl ?_
  simp (maxSteps := 4000000) (disch := omega) only [Zq, evO, vbox, wr, Zeq, if_true, if_false, Nat.reduceEqDiff, Nat.reduceAdd, Nat.reduceLeDiff, Nat.reduceSub, and_self, and_true, true_and, reduceIte, reduceCtorEq, eq_self, implies_true, forall_const, false_implies, imp_self, decide_true, decide_false, x101, lv]
  refine G_forF [0] (l.length) (fun i T H1 => T 3 = .int .i64 (i : Int) ∧ Keep H H1 ∧ ∀ j, j < i → tbRow l j = true) 0 (Nat.zero_le _) ?_ ?_
  · simp (maxSteps := 4000000) (disch := omega) only [Zq, evO, vbox, wr, Zeq, if_true, if_false, Nat.reduceEqDiff, Nat.reduceAdd, Nat.reduceLeDiff, Nat.reduceSub, and_self, and_true, true_and, reduceIte, reduceCtorEq, eq_self, implies_true, forall_const, false_implies, imp_self, decide_true, decide_false, fix_nil, fix_cons]
    exact ⟨Keep.refl _, fun j hj => by omega⟩
  rintro i T H1 hi hT ⟨t3, k1, ha⟩
  simp only [fix_nil, fix_cons, Zq, evO, vbox, wr, Zeq, if_true, if_false, Nat.reduceEqDiff, Nat.reduceAdd, Nat.reduceLeDiff, Nat.reduceSub, and_self, and_true, true_and, reduceIte, reduceCtorEq, eq_self, implies_true, forall_const, false_implies, imp_self, decide_true, decide_false] at hT
  have t0 := hT
  by_cases hin : i < l.length
  rotate_left
  · obtain rfl : i = l.length := by omega
    simp (maxSteps := 4000000) (disch := omega) only [Zq, evO, vbox, wr, Zeq, if_true, if_false, Nat.reduceEqDiff, Nat.reduceAdd, Nat.reduceLeDiff, Nat.reduceSub, and_self, and_true, true_and, reduceIte, reduceCtorEq, eq_self, implies_true, forall_const, false_implies, imp_self, decide_true, decide_false, fix_nil, fix_cons, t0, t3, lv]
    exact ⟨k1, by rw [tbOk, decide_eq_true c0, allTo_iff.2 ha]; rfl⟩
  have ixe := fun H0 : Heap => slc_idx (r := rTrip) (H1 := H0) (sz := 2) (i := i) (k := .i64) rfl hr hin
  have fxe := fun (H0 : Heap) (o off : Nat) => slc_fad (r := rTrip) (H1 := H0) (sz := 2) (i := i) (o := o) (off := off) rfl hr hin
  obtain ⟨w, e1, _, _, hw⟩ := trip_el ((rSlc rTrip).rdk hr k1) hin
  obtain ⟨s1, s2⟩ := tp_tot ht hin
  simp (maxSteps := 4000000) (disch := omega) only [Zq, evO, vbox, wr, Zeq, if_true, if_false, Nat.reduceEqDiff, Nat.reduceAdd, Nat.reduceLeDiff, Nat.reduceSub, and_self, and_true, true_and, reduceIte, reduceCtorEq, eq_self, implies_true, forall_const, false_implies, imp_self, decide_true, decide_false, fix_nil, fix_cons, t0, t3, ixe, e1, lv]
  refine GO_call ((r_spec_TripOk (t := tp l i) hw s1 s2).mono ?_)
  rintro _ H2 ⟨k2, rfl⟩
  have n2 := k2.nxt
  have k02 := k1.trans k2
  cases c1 : tpOk (tp l i) with
  | false =>
    simp (maxSteps := 4000000) (disch := omega) only [Zq, evO, vbox, wr, Zeq, if_true, if_false, Nat.reduceEqDiff, Nat.reduceAdd, Nat.reduceLeDiff, Nat.reduceSub, and_self, and_true, true_and, reduceIte, reduceCtorEq, eq_self, implies_true, forall_const, false_implies, imp_self, decide_true, decide_false, fix_nil, fix_cons, t0, t3, c1]
    exact ⟨k02, by rw [tbOk_bad hin (by rw [tbRow, c1]; rfl)]⟩
  | true =>
  simp (maxSteps := 4000000) (disch := omega) only [Zq, evO, vbox, wr, Zeq, if_true, if_false, Nat.reduceEqDiff, Nat.reduceAdd, Nat.reduceLeDiff, Nat.reduceSub, and_self, and_true, true_and, reduceIte, reduceCtorEq, eq_self, implies_true, forall_const, false_implies, imp_self, decide_true, decide_false, fix_nil, fix_cons, t0, t3, c1]
  refine G_forF [0, 3] (i) (fun k T H3 => T 4 = .int .i64 (k : Int) ∧ H3 = H2 ∧ ∀ j, j < k → nmNe l (tp l i).1 j = true) 0 (Nat.zero_le _) ?_ ?_
  · simp (maxSteps := 4000000) (disch := omega) only [Zq, evO, vbox, wr, Zeq, if_true, if_false, Nat.reduceEqDiff, Nat.reduceAdd, Nat.reduceLeDiff, Nat.reduceSub, and_self, and_true, true_and, reduceIte, reduceCtorEq, eq_self, implies_true, forall_const, false_implies, imp_self, decide_true, decide_false, fix_nil, fix_cons, t0, t3]
    exact fun j hj => by omega
  rintro k T H3 hk hT ⟨t4, h3, hb⟩
  simp only [fix_nil, fix_cons, Zq, evO, vbox, wr, Zeq, if_true, if_false, Nat.reduceEqDiff, Nat.reduceAdd, Nat.reduceLeDiff, Nat.reduceSub, and_self, and_true, true_and, reduceIte, reduceCtorEq, eq_self, implies_true, forall_const, false_implies, imp_self, decide_true, decide_false, t0, t3] at hT
  obtain ⟨t0, t3⟩ := hT
  subst h3
  by_cases hki : k < i
  rotate_left
  · obtain rfl : k = i := by omega
    simp (maxSteps := 4000000) (disch := omega) only [Zq, evO, vbox, wr, Zeq, if_true, if_false, Nat.reduceEqDiff, Nat.reduceAdd, Nat.reduceLeDiff, Nat.reduceSub, and_self, and_true, true_and, reduceIte, reduceCtorEq, eq_self, implies_true, forall_const, false_implies, imp_self, decide_true, decide_false, fix_nil, fix_cons, t0, t3, t4]
    exact ⟨hin, k02, upto_succ ha (by rw [tbRow, c1, allTo_iff.2 hb]; rfl)⟩
  have ixk := fun H0 : Heap => slc_idx (r := rTrip) (H1 := H0) (sz := 2) (i := k) (k := .i64) rfl hr (by omega)
  have fxk := fun (H0 : Heap) (o off : Nat) => slc_fad (r := rTrip) (H1 := H0) (sz := 2) (i := k) (o := o) (off := off) rfl hr (by omega)
  obtain ⟨_, _, e2, _⟩ := trip_el ((rSlc rTrip).rdk hr k02) hin
  obtain ⟨_, _, e3, _⟩ := trip_el (i := k) ((rSlc rTrip).rdk hr k02) (by omega)
  simp (maxSteps := 4000000) (disch := omega) only [Zq, evO, vbox, wr, Zeq, if_true, if_false, Nat.reduceEqDiff, Nat.reduceAdd, Nat.reduceLeDiff, Nat.reduceSub, and_self, and_true, true_and, reduceIte, reduceCtorEq, eq_self, implies_true, forall_const, false_implies, imp_self, decide_true, decide_false, fix_nil, fix_cons, t0, t3, t4]
  refine G_calm rfl ?_
  cases c2 : ((tp l k).1.toList == (tp l i).1.toList) with
  | true =>
    simp (maxSteps := 4000000) (disch := omega) only [Zq, evO, vbox, wr, Zeq, if_true, if_false, Nat.reduceEqDiff, Nat.reduceAdd, Nat.reduceLeDiff, Nat.reduceSub, and_self, and_true, true_and, reduceIte, reduceCtorEq, eq_self, implies_true, forall_const, false_implies, imp_self, decide_true, decide_false, fix_nil, fix_cons, t0, t3, t4, ixe, fxe, ixk, fxk, e2, e3, abin_seq, c2]
    exact ⟨k02, by rw [tbOk_bad hin (by rw [tbRow, allTo_bad hki (by rw [nmNe, c2]; rfl), Bool.and_false])]⟩
  | false =>
    simp (maxSteps := 4000000) (disch := omega) only [Zq, evO, vbox, wr, Zeq, if_true, if_false, Nat.reduceEqDiff, Nat.reduceAdd, Nat.reduceLeDiff, Nat.reduceSub, and_self, and_true, true_and, reduceIte, reduceCtorEq, eq_self, implies_true, forall_const, false_implies, imp_self, decide_true, decide_false, fix_nil, fix_cons, t0, t3, t4, ixe, fxe, ixk, fxk, e2, e3, abin_seq, c2]
    exact ⟨hki, upto_succ hb (by rw [nmNe, c2]; rfl)⟩
end
end Go.Proofs.Ytjjglonmaajjoaa.AX
