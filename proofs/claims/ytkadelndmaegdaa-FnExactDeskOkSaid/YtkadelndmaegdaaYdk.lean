/- Sidings: whether they are right. No condition; of the program: the functions' forms. -/
import Derived.Test.YtkadelndmaegdaaRdk
import Derived.Test.YtkadelndmaegdaaBsd
import Derived.Test.YtkadelndmaegdaaAXzf
namespace Go.Proofs.Ytkadelndmaegdaa.AX
open Go
set_option maxRecDepth 10000
set_option maxHeartbeats 4000000
set_option linter.unusedSimpArgs false
set_option linter.unusedVariables false
def stepW (seen : List Int) (w : Int) : Option (List Int) := if (inR 1 9999 w && !(seen.contains w)) = true then some (seen ++ [w]) else none
def rowGo (seen : List Int) (ws : List Int) : Option (List Int) := ws.foldlM stepW seen
def stepR (seen : List Int) (p : Int × List Int) : Option (List Int) := if (inR 1 40 p.1 && decide ((p.2.length : Int) ≤ p.1)) = true then rowGo seen p.2 else none
def rowsGo (ps : List (Int × List Int)) : Option (List Int) := ps.foldlM stepR []
def yardOk (room : List Int) (rows : List (List Int)) : Bool := inR 1 6 (rows.length : Int) && decide (room.length = rows.length) && (rowsGo (room.zip rows)).isSome
theorem foldlM_snoc {α β : Type} (f : β → α → Option β) (b : β) (l : List α) (x : α) : (l ++ [x]).foldlM f b = (l.foldlM f b).bind fun c => f c x := by
  rw [List.foldlM_append]
  cases l.foldlM f b with
  | none => rfl
  | some c =>
    show ([x].foldlM f c) = f c x
    simp [List.foldlM]
theorem foldlM_none {α β : Type} (f : β → α → Option β) (b : β) (l : List α) (i : Nat) (h : (l.take i).foldlM f b = none) : l.foldlM f b = none := by
  have e : l = l.take i ++ l.drop i := (List.take_append_drop i l).symm
  rw [e, List.foldlM_append, h]
  rfl
theorem new0 {H H1 : Heap} {k : IntKind} (hk : Keep H H1) : NewK k H (H1.push []) (.slice (some ⟨H1.nxt, 0, none⟩) 0 1) [] := ⟨H1.nxt, hk.nxt, by rw [Zbg]; omega, rfl, by rw [push_get', if_pos rfl]; rfl⟩
theorem inR_get {a b x : Int} (h : inR a b x = true) : a ≤ x ∧ x ≤ b := by simpa [inR] using h
theorem tot_I (xs : List Int) : (rSlc rInt).tot xs = xs.length := leaf_tot xs
theorem r_impl_wagonOk (x : Int) (H : Heap) : Run Try.prog 76 [.int .i64 x] H fun r H' => Keep H H' ∧ r = .bool (inR 1 9999 x) := by
  refine Run.intro c76 rfl ?_
  simp (maxSteps := 4000000) (disch := omega) only [Zq, evO, vbox, wr, Zeq, if_true, if_false, Nat.reduceEqDiff, Nat.reduceAdd, Nat.reduceLeDiff, Nat.reduceSub, and_self, and_true, true_and, reduceIte, reduceCtorEq, eq_self, implies_true, forall_const, false_implies, imp_self, decide_true, decide_false, x76]
  refine GO_call ((r_impl_between x 1 9999 _).mono ?_)
  rintro _ H1 ⟨k1, rfl⟩
  have n1 := k1.nxt
  simp (maxSteps := 4000000) (disch := omega) only [Zq, evO, vbox, wr, Zeq, if_true, if_false, Nat.reduceEqDiff, Nat.reduceAdd, Nat.reduceLeDiff, Nat.reduceSub, and_self, and_true, true_and, reduceIte, reduceCtorEq, eq_self, implies_true, forall_const, false_implies, imp_self, decide_true, decide_false, fix_nil, fix_cons]
  exact k1
theorem rows_sl {H : Heap} {w : Value} {rows : List (List Int)} (h : (rSlc (rSlc rInt)).rd H [w] rows) : ∃ cs, Sl H w 1 rows.length cs := by
  obtain ⟨v, rc, e, hs, _⟩ := h
  obtain rfl : w = v := by simpa using e
  exact ⟨_, hs⟩
theorem yrow_get {H : Heap} {w : Value} {rows : List (List Int)} {i : Nat} (h : (rSlc (rSlc rInt)).rd H [w] rows) (hi : i < rows.length) : ∃ rv, (∀ H1, Keep H H1 → vld1 H1 (adr w i 1 0) = some (rv, H1)) ∧ Ints H rv (rows.getD i []) := by
  obtain ⟨v, rc, e, hs, hr⟩ := h
  obtain rfl : w = v := by simpa using e
  obtain ⟨row, hrow, hrd⟩ := rows_get hr hi
  obtain ⟨rv, rfl, hv⟩ := leaf_rd hrd
  have e2 : rows.getD i [] = rows[i] := by simp [List.getD, List.getElem?_eq_getElem hi]
  refine ⟨rv, fun H1 hk => ?_, by rw [e2]; exact hv⟩
  have := load_elem elemIntS (hs.keep hk) (hr.keep hk) hi hrow
  simp only [vload, Bool.false_eq_true, if_false] at this
  rw [this]
  rfl
theorem stepW_len {seen : List Int} {ws : List Int} : ∀ {s : List Int}, rowGo seen ws = some s → s.length = seen.length + ws.length := by
  induction ws generalizing seen with
  | nil => intro s h; simp [rowGo] at h; subst h; simp
  | cons x ws ih =>
    intro s h
    simp only [rowGo, List.foldlM_cons] at h
    unfold stepW at h
    split at h
    · have := ih (seen := seen ++ [x]) (s := s) h
      rw [this]; simp; omega
    · cases h
theorem stepR_len {seen : List Int} {p : Int × List Int} {s : List Int} (h : stepR seen p = some s) : s.length = seen.length + p.2.length := by
  unfold stepR at h
  split at h
  · exact stepW_len h
  · cases h
theorem zip_getD {room : List Int} {rows : List (List Int)} {i : Nat} (h1 : i < room.length) (h2 : i < rows.length) : (room.zip rows).getD i (0, []) = (room.getD i 0, rows.getD i []) := by
  have h3 : i < (room.zip rows).length := by rw [List.length_zip]; omega
  simp [List.getD, List.getElem?_eq_getElem h1, List.getElem?_eq_getElem h2, List.getElem?_eq_getElem h3]
theorem r_impl_SidingsOk {v w : Value} {room : List Int} {rows : List (List Int)} {H : Heap} (h1 : (rSlc rInt).rd H [v] room) (h2 : (rSlc (rSlc rInt)).rd H [w] rows) (ht : rSidings.tot (room, rows) ≤ 1048576) :
    Run Try.prog 41 [.agg #[v, w]] H fun r H' => Keep H H' ∧ r = .bool (yardOk room rows) := by
  obtain ⟨cs, hsw⟩ := rows_sl h2
  have hv := ints_of h1
  have htot : rSidings.tot (room, rows) = (rSlc rInt).tot room + (rSlc (rSlc rInt)).tot rows := rfl
  rw [htot, tot_I] at ht
  have hrl : rows.length ≤ (rSlc (rSlc rInt)).tot rows := Nat.le_add_right _ _
  refine Run.intro c41 rfl ?_
  simp (maxSteps := 4000000) (disch := omega) only [Zq, evO, vbox, wr, Zeq, if_true, if_false, Nat.reduceEqDiff, Nat.reduceAdd, Nat.reduceLeDiff, Nat.reduceSub, and_self, and_true, true_and, reduceIte, reduceCtorEq, eq_self, implies_true, forall_const, false_implies, imp_self, decide_true, decide_false, x41, hsw.len_]
  refine GO_call ((r_impl_between (rows.length : Int) 1 6 _).mono ?_)
  rintro _ H1 ⟨k1, rfl⟩
  have n1 := k1.nxt
  have g1 := k1.get H.nxt (by simp only [Zbg]; omega)
  simp (maxSteps := 4000000) (disch := omega) only [Zq, evO, vbox, wr, Zeq, if_true, if_false, Nat.reduceEqDiff, Nat.reduceAdd, Nat.reduceLeDiff, Nat.reduceSub, and_self, and_true, true_and, reduceIte, reduceCtorEq, eq_self, implies_true, forall_const, false_implies, imp_self, decide_true, decide_false] at n1 g1
  by_cases hr6 : inR 1 6 (rows.length : Int) = true
  · by_cases heq : room.length = rows.length
    · simp (maxSteps := 4000000) (disch := omega) only [Zq, evO, vbox, wr, Zeq, if_true, if_false, Nat.reduceEqDiff, Nat.reduceAdd, Nat.reduceLeDiff, Nat.reduceSub, and_self, and_true, true_and, reduceIte, reduceCtorEq, eq_self, implies_true, forall_const, false_implies, imp_self, decide_true, decide_false, hr6, g1, hv.len_, hsw.len_]
      have k01 : Keep H H1 := (Keep.push _ _).trans k1
      have hz : (room.zip rows).length = rows.length := by rw [List.length_zip]; omega
      have hr6' := inR_get hr6
      have hyard : yardOk room rows = (rowsGo (room.zip rows)).isSome := by simp [yardOk, hr6, heq]
      refine G_for rows.length (fun i T H2 => T 1 = ptr H.nxt 0 ∧ T 24 = w ∧ T 25 = .int .i64 rows.length ∧ T 26 = .int .i64 (i : Int) ∧ Keep H1 H2 ∧ ∃ seen, rowsGo ((room.zip rows).take i) = some seen ∧ seen.length ≤ 40 * i ∧ NewK .i64 H1 H2 (T 3) seen) 0 (Nat.zero_le _) ?_ ?_
      · simp (maxSteps := 4000000) (disch := omega) only [Zq, evO, vbox, wr, Zeq, if_true, if_false, Nat.reduceEqDiff, Nat.reduceAdd, Nat.reduceLeDiff, Nat.reduceSub, and_self, and_true, true_and, reduceIte, reduceCtorEq, eq_self, implies_true, forall_const, false_implies, imp_self, decide_true, decide_false, g1, hsw.len_]
        exact ⟨Keep.push _ _, [], rfl, by simp, new0 (Keep.refl _)⟩
      · rintro i T H2 hi ⟨t1, t24, t25, t26, k2, seen, hgo, hsl, o2⟩
        have k02 := k01.trans k2
        have g2 := (k2.get H.nxt (by omega)).trans g1
        by_cases hin : i < rows.length
        · have hir : i < room.length := by omega
          obtain ⟨rv, hld, hrv⟩ := yrow_get h2 hin
          have hv2 := hv.keep k02
          have hw2 := hsw.keep k02
          have hrow2 := hrv.keep k02
          have hgo1 : rowsGo ((room.zip rows).take (i + 1)) = stepR seen (room.getD i 0, rows.getD i []) := by
            unfold rowsGo at hgo ⊢
            rw [take_snoc (room.zip rows) (0, []) (by omega), foldlM_snoc, hgo, zip_getD hir hin]
            rfl
          have hbad : stepR seen (room.getD i 0, rows.getD i []) = none → yardOk room rows = false := fun hn => by
            rw [hyard]
            have : rowsGo (room.zip rows) = none := foldlM_none stepR [] _ (i + 1) (by rw [← hn]; exact hgo1)
            rw [this]
            rfl
          simp (maxSteps := 4000000) (disch := omega) only [Zq, evO, vbox, wr, Zeq, if_true, if_false, Nat.reduceEqDiff, Nat.reduceAdd, Nat.reduceLeDiff, Nat.reduceSub, and_self, and_true, true_and, reduceIte, reduceCtorEq, eq_self, implies_true, forall_const, false_implies, imp_self, decide_true, decide_false, t1, t24, t25, t26, Sl.idx hw2 hin, hld H2 k02, g2, hv2.idx hir, hv2.ld hir]
          refine GO_call ((r_impl_between (room.getD i 0) 1 40 _).mono ?_)
          rintro _ H3 ⟨k3, rfl⟩
          have n2 := k2.nxt
          have g3 := (k3.get H.nxt (by omega)).trans g2
          have k03 := k02.trans k3
          have hv3 := hv.keep k03
          have hrow3 := hrv.keep k03
          by_cases hc1 : inR 1 40 (room.getD i 0) = true
          · by_cases hc2 : ((rows.getD i []).length : Int) ≤ room.getD i 0
            · have hstep : stepR seen (room.getD i 0, rows.getD i []) = rowGo seen (rows.getD i []) := by
                unfold stepR
                rw [if_pos (by simp only [hc1, decide_eq_true hc2, Bool.and_self])]
              have hc1' := inR_get hc1
              simp (maxSteps := 4000000) (disch := omega) only [Zq, evO, vbox, wr, Zeq, if_true, if_false, Nat.reduceEqDiff, Nat.reduceAdd, Nat.reduceLeDiff, Nat.reduceSub, and_self, and_true, true_and, reduceIte, reduceCtorEq, eq_self, implies_true, forall_const, false_implies, imp_self, decide_true, decide_false, hc1, t1, t24, t25, t26, g3, hrow3.len_, hv3.idx hir, hv3.ld hir]
              refine G_for (rows.getD i []).length (fun k T H4 => T 1 = ptr H.nxt 0 ∧ T 24 = w ∧ T 25 = .int .i64 rows.length ∧ T 26 = .int .i64 (i : Int) ∧ T 48 = rv ∧ T 49 = .int .i64 (rows.getD i []).length ∧ T 50 = .int .i64 (k : Int) ∧ Keep H1 H4 ∧ ∃ s, rowGo seen ((rows.getD i []).take k) = some s ∧ s.length = seen.length + k ∧ NewK .i64 H1 H4 (T 3) s) 0 (Nat.zero_le _) ?_ ?_
              · simp (maxSteps := 4000000) (disch := omega) only [Zq, evO, vbox, wr, Zeq, if_true, if_false, Nat.reduceEqDiff, Nat.reduceAdd, Nat.reduceLeDiff, Nat.reduceSub, and_self, and_true, true_and, reduceIte, reduceCtorEq, eq_self, implies_true, forall_const, false_implies, imp_self, decide_true, decide_false, t1, t24, t25, t26]
                exact ⟨k2.trans k3, seen, rfl, rfl, o2.keep k3⟩
              · rintro k T H4 hk ⟨t1, t24, t25, t26, t48, t49, t50, k4, s, hs, hsl2, o4⟩
                have hrow4 := hrv.keep (k01.trans k4)
                by_cases hkn : k < (rows.getD i []).length
                · have hrg : rowGo seen ((rows.getD i []).take (k + 1)) = stepW s ((rows.getD i []).getD k 0) := by
                    unfold rowGo at hs ⊢
                    rw [take_snoc _ 0 hkn, foldlM_snoc, hs]
                    rfl
                  have hbad2 : stepW s ((rows.getD i []).getD k 0) = none → yardOk room rows = false := fun hn => hbad (by
                    rw [hstep]
                    exact foldlM_none stepW seen _ (k + 1) (by rw [← hn]; exact hrg))
                  simp (maxSteps := 4000000) (disch := omega) only [Zq, evO, vbox, wr, Zeq, if_true, if_false, Nat.reduceEqDiff, Nat.reduceAdd, Nat.reduceLeDiff, Nat.reduceSub, and_self, and_true, true_and, reduceIte, reduceCtorEq, eq_self, implies_true, forall_const, false_implies, imp_self, decide_true, decide_false, t1, t24, t25, t26, t48, t49, t50, hrow4.idx hkn, hrow4.ld hkn]
                  refine GO_call ((r_impl_wagonOk ((rows.getD i []).getD k 0) _).mono ?_)
                  rintro _ H5 ⟨k5, rfl⟩
                  by_cases hw : inR 1 9999 ((rows.getD i []).getD k 0) = true
                  · have o5 := o4.keep k5
                    simp (maxSteps := 4000000) (disch := omega) only [Zq, evO, vbox, wr, Zeq, if_true, if_false, Nat.reduceEqDiff, Nat.reduceAdd, Nat.reduceLeDiff, Nat.reduceSub, and_self, and_true, true_and, reduceIte, reduceCtorEq, eq_self, implies_true, forall_const, false_implies, imp_self, decide_true, decide_false, hw, t1, t24, t25, t26, t48, t49, t50]
                    refine GO_call ((r_impl_has o5.ints (by omega)).mono ?_)
                    rintro _ H6 ⟨k6, rfl⟩
                    have o6 := o5.keep k6
                    by_cases hh : s.contains ((rows.getD i []).getD k 0) = true
                    · simp (maxSteps := 4000000) (disch := omega) only [Zq, evO, vbox, wr, Zeq, if_true, if_false, Nat.reduceEqDiff, Nat.reduceAdd, Nat.reduceLeDiff, Nat.reduceSub, and_self, and_true, true_and, reduceIte, reduceCtorEq, eq_self, implies_true, forall_const, false_implies, imp_self, decide_true, decide_false, hh, t1, t24, t25, t26, t48, t49, t50]
                      refine ⟨k01.trans (k4.trans (k5.trans k6)), ?_⟩
                      rw [hbad2 (by unfold stepW; rw [hh]; simp)]
                    · have hh' : s.contains ((rows.getD i []).getD k 0) = false := by simpa using hh
                      obtain ⟨x, H7, e7, o7, k7, n7⟩ := o6.one (z := (rows.getD i []).getD k 0) (bytes := 8) (by omega)
                      simp (maxSteps := 4000000) (disch := omega) only [Zq, evO, vbox, wr, Zeq, if_true, if_false, Nat.reduceEqDiff, Nat.reduceAdd, Nat.reduceLeDiff, Nat.reduceSub, and_self, and_true, true_and, reduceIte, reduceCtorEq, eq_self, implies_true, forall_const, false_implies, imp_self, decide_true, decide_false, hh', t1, t24, t25, t26, t48, t49, t50, e7]
                      refine ⟨hkn, k7 (k4.trans (k5.trans k6)), s ++ [(rows.getD i []).getD k 0], ?_, by simp; omega, o7⟩
                      rw [hrg]
                      unfold stepW
                      rw [hw, hh']
                      rfl
                  · have hw' : inR 1 9999 ((rows.getD i []).getD k 0) = false := by simpa using hw
                    simp (maxSteps := 4000000) (disch := omega) only [Zq, evO, vbox, wr, Zeq, if_true, if_false, Nat.reduceEqDiff, Nat.reduceAdd, Nat.reduceLeDiff, Nat.reduceSub, and_self, and_true, true_and, reduceIte, reduceCtorEq, eq_self, implies_true, forall_const, false_implies, imp_self, decide_true, decide_false, hw', t1, t24, t25, t26, t48, t49, t50]
                    refine ⟨k01.trans (k4.trans k5), ?_⟩
                    rw [hbad2 (by unfold stepW; rw [hw']; simp)]
                · obtain rfl : k = (rows.getD i []).length := by omega
                  rw [List.take_length] at hs
                  simp (maxSteps := 4000000) (disch := omega) only [Zq, evO, vbox, wr, Zeq, if_true, if_false, Nat.reduceEqDiff, Nat.reduceAdd, Nat.reduceLeDiff, Nat.reduceSub, and_self, and_true, true_and, reduceIte, reduceCtorEq, eq_self, implies_true, forall_const, false_implies, imp_self, decide_true, decide_false, t1, t24, t25, t26, t48, t49, t50]
                  refine ⟨hin, k4, s, by rw [hgo1, hstep]; exact hs, by omega, o4⟩
            · have hnone : stepR seen (room.getD i 0, rows.getD i []) = none := by
                unfold stepR
                rw [if_neg (by simp only [hc2, decide_false, Bool.and_false, Bool.false_eq_true, not_false_eq_true])]
              simp (maxSteps := 4000000) (disch := omega) only [Zq, evO, vbox, wr, Zeq, if_true, if_false, Nat.reduceEqDiff, Nat.reduceAdd, Nat.reduceLeDiff, Nat.reduceSub, and_self, and_true, true_and, reduceIte, reduceCtorEq, eq_self, implies_true, forall_const, false_implies, imp_self, decide_true, decide_false, hc1, t1, t24, t25, t26, g3, hrow3.len_, hv3.idx hir, hv3.ld hir]
              exact ⟨k03, by rw [hbad hnone]⟩
          · have hc1' : inR 1 40 (room.getD i 0) = false := by simpa using hc1
            have hnone : stepR seen (room.getD i 0, rows.getD i []) = none := by
              unfold stepR
              rw [if_neg (by simp only [hc1', Bool.false_and, Bool.false_eq_true, not_false_eq_true])]
            simp (maxSteps := 4000000) (disch := omega) only [Zq, evO, vbox, wr, Zeq, if_true, if_false, Nat.reduceEqDiff, Nat.reduceAdd, Nat.reduceLeDiff, Nat.reduceSub, and_self, and_true, true_and, reduceIte, reduceCtorEq, eq_self, implies_true, forall_const, false_implies, imp_self, decide_true, decide_false, hc1', t1, t24, t25, t26]
            exact ⟨k03, by rw [hbad hnone]⟩
        · obtain rfl : i = rows.length := by omega
          simp (maxSteps := 4000000) (disch := omega) only [Zq, evO, vbox, wr, Zeq, if_true, if_false, Nat.reduceEqDiff, Nat.reduceAdd, Nat.reduceLeDiff, Nat.reduceSub, and_self, and_true, true_and, reduceIte, reduceCtorEq, eq_self, implies_true, forall_const, false_implies, imp_self, decide_true, decide_false, t1, t24, t25, t26]
          refine ⟨k02, ?_⟩
          rw [List.take_of_length_le (by omega)] at hgo
          rw [hyard, hgo]
          rfl
    · simp (maxSteps := 4000000) (disch := omega) only [Zq, evO, vbox, wr, Zeq, if_true, if_false, Nat.reduceEqDiff, Nat.reduceAdd, Nat.reduceLeDiff, Nat.reduceSub, and_self, and_true, true_and, reduceIte, reduceCtorEq, eq_self, implies_true, forall_const, false_implies, imp_self, decide_true, decide_false, hr6, g1, hv.len_, hsw.len_]
      refine ⟨(Keep.push _ _).trans k1, ?_⟩
      simp [yardOk, heq]
  · have hr6' : inR 1 6 (rows.length : Int) = false := by simpa using hr6
    simp (maxSteps := 4000000) (disch := omega) only [Zq, evO, vbox, wr, Zeq, if_true, if_false, Nat.reduceEqDiff, Nat.reduceAdd, Nat.reduceLeDiff, Nat.reduceSub, and_self, and_true, true_and, reduceIte, reduceCtorEq, eq_self, implies_true, forall_const, false_implies, imp_self, decide_true, decide_false, hr6']
    refine ⟨(Keep.push _ _).trans k1, ?_⟩
    simp [yardOk, hr6']
theorem r_spec_SidingsOk {v w : Value} {room : List Int} {rows : List (List Int)} {H : Heap} (h1 : (rSlc rInt).rd H [v] room) (h2 : (rSlc (rSlc rInt)).rd H [w] rows) (ht : rSidings.tot (room, rows) ≤ 1048576) :
    Run Try.prog 33 [.agg #[v, w]] H fun r H' => Keep H H' ∧ r = .bool (yardOk room rows) := by
  obtain ⟨cs, hsw⟩ := rows_sl h2
  have hv := ints_of h1
  have htot : rSidings.tot (room, rows) = (rSlc rInt).tot room + (rSlc (rSlc rInt)).tot rows := rfl
  rw [htot, tot_I] at ht
  have hrl : rows.length ≤ (rSlc (rSlc rInt)).tot rows := Nat.le_add_right _ _
  refine Run.intro c33 rfl ?_
  simp (maxSteps := 4000000) (disch := omega) only [Zq, evO, vbox, wr, Zeq, if_true, if_false, Nat.reduceEqDiff, Nat.reduceAdd, Nat.reduceLeDiff, Nat.reduceSub, and_self, and_true, true_and, reduceIte, reduceCtorEq, eq_self, implies_true, forall_const, false_implies, imp_self, decide_true, decide_false, x33, hv.len_]
  refine GO_call ((r_spec_l01In (room.length : Int) 1 6 _).mono ?_)
  rintro _ H1 ⟨k1, rfl⟩
  have n1 := k1.nxt
  have g1 := k1.get H.nxt (by simp only [Zbg]; omega)
  simp (maxSteps := 4000000) (disch := omega) only [Zq, evO, vbox, wr, Zeq, if_true, if_false, Nat.reduceEqDiff, Nat.reduceAdd, Nat.reduceLeDiff, Nat.reduceSub, and_self, and_true, true_and, reduceIte, reduceCtorEq, eq_self, implies_true, forall_const, false_implies, imp_self, decide_true, decide_false] at n1 g1
  by_cases hr6 : inR 1 6 (room.length : Int) = true
  · by_cases heq : room.length = rows.length
    · simp (maxSteps := 4000000) (disch := omega) only [Zq, evO, vbox, wr, Zeq, if_true, if_false, Nat.reduceEqDiff, Nat.reduceAdd, Nat.reduceLeDiff, Nat.reduceSub, and_self, and_true, true_and, reduceIte, reduceCtorEq, eq_self, implies_true, forall_const, false_implies, imp_self, decide_true, decide_false, hr6, g1, hv.len_, hsw.len_]
      have k01 : Keep H H1 := (Keep.push _ _).trans k1
      have hz : (room.zip rows).length = rows.length := by rw [List.length_zip]; omega
      have hr6' := inR_get hr6
      have hyard : yardOk room rows = (rowsGo (room.zip rows)).isSome := by
        unfold yardOk
        rw [← heq, hr6]
        simp
      refine G_for rows.length (fun i T H2 => T 1 = ptr H.nxt 0 ∧ T 4 = .int .i64 (i : Int) ∧ Keep H1 H2 ∧ ∃ seen, rowsGo ((room.zip rows).take i) = some seen ∧ seen.length ≤ 40 * i ∧ NewK .i64 H1 H2 (T 3) seen) 0 (Nat.zero_le _) ?_ ?_
      · simp (maxSteps := 4000000) (disch := omega) only [Zq, evO, vbox, wr, Zeq, if_true, if_false, Nat.reduceEqDiff, Nat.reduceAdd, Nat.reduceLeDiff, Nat.reduceSub, and_self, and_true, true_and, reduceIte, reduceCtorEq, eq_self, implies_true, forall_const, false_implies, imp_self, decide_true, decide_false]
        exact ⟨Keep.push _ _, [], rfl, by simp, new0 (Keep.refl _)⟩
      · rintro i T H2 hi ⟨t1, t4, k2, seen, hgo, hsl, o2⟩
        have k02 := k01.trans k2
        have g2 := (k2.get H.nxt (by omega)).trans g1
        have hw2 := hsw.keep k02
        by_cases hin : i < rows.length
        · have hir : i < room.length := by omega
          obtain ⟨rv, hld, hrv⟩ := yrow_get h2 hin
          have hv2 := hv.keep k02
          have hgo1 : rowsGo ((room.zip rows).take (i + 1)) = stepR seen (room.getD i 0, rows.getD i []) := by
            unfold rowsGo at hgo ⊢
            rw [take_snoc (room.zip rows) (0, []) (by omega), foldlM_snoc, hgo, zip_getD hir hin]
            rfl
          have hbad : stepR seen (room.getD i 0, rows.getD i []) = none → yardOk room rows = false := fun hn => by
            rw [hyard]
            have : rowsGo (room.zip rows) = none := foldlM_none stepR [] _ (i + 1) (by rw [← hn]; exact hgo1)
            rw [this]
            rfl
          simp (maxSteps := 4000000) (disch := omega) only [Zq, evO, vbox, wr, Zeq, if_true, if_false, Nat.reduceEqDiff, Nat.reduceAdd, Nat.reduceLeDiff, Nat.reduceSub, and_self, and_true, true_and, reduceIte, reduceCtorEq, eq_self, implies_true, forall_const, false_implies, imp_self, decide_true, decide_false, t1, t4, g2, hw2.len_]
          refine G_tame rfl ?_
          simp (maxSteps := 4000000) (disch := omega) only [Zq, evO, vbox, wr, Zeq, if_true, if_false, Nat.reduceEqDiff, Nat.reduceAdd, Nat.reduceLeDiff, Nat.reduceSub, and_self, and_true, true_and, reduceIte, reduceCtorEq, eq_self, implies_true, forall_const, false_implies, imp_self, decide_true, decide_false, t1, t4, g2, hv2.idx hir, hv2.ld hir]
          refine GO_call ((r_spec_l01In (room.getD i 0) 1 40 _).mono ?_)
          rintro _ H3 ⟨k3, rfl⟩
          have n2 := k2.nxt
          have g3 := (k3.get H.nxt (by omega)).trans g2
          have k03 := k02.trans k3
          have hv3 := hv.keep k03
          have hw3 := hsw.keep k03
          have hrow3 := hrv.keep k03
          by_cases hc1 : inR 1 40 (room.getD i 0) = true
          · by_cases hc2 : ((rows.getD i []).length : Int) ≤ room.getD i 0
            · have hstep : stepR seen (room.getD i 0, rows.getD i []) = rowGo seen (rows.getD i []) := by
                unfold stepR
                rw [if_pos (by simp only [hc1, decide_eq_true hc2, Bool.and_self])]
              have hc1' := inR_get hc1
              simp (maxSteps := 4000000) (disch := omega) only [Zq, evO, vbox, wr, Zeq, if_true, if_false, Nat.reduceEqDiff, Nat.reduceAdd, Nat.reduceLeDiff, Nat.reduceSub, and_self, and_true, true_and, reduceIte, reduceCtorEq, eq_self, implies_true, forall_const, false_implies, imp_self, decide_true, decide_false, hc1, t1, t4, g3, Sl.idx hw3 hin, hld H3 k03, hrow3.len_, hv3.idx hir, hv3.ld hir]
              refine G_for (rows.getD i []).length (fun k T H4 => T 1 = ptr H.nxt 0 ∧ T 4 = .int .i64 (i : Int) ∧ T 5 = .int .i64 (k : Int) ∧ Keep H1 H4 ∧ ∃ s, rowGo seen ((rows.getD i []).take k) = some s ∧ s.length = seen.length + k ∧ NewK .i64 H1 H4 (T 3) s) 0 (Nat.zero_le _) ?_ ?_
              · simp (maxSteps := 4000000) (disch := omega) only [Zq, evO, vbox, wr, Zeq, if_true, if_false, Nat.reduceEqDiff, Nat.reduceAdd, Nat.reduceLeDiff, Nat.reduceSub, and_self, and_true, true_and, reduceIte, reduceCtorEq, eq_self, implies_true, forall_const, false_implies, imp_self, decide_true, decide_false, t1, t4]
                exact ⟨k2.trans k3, seen, rfl, rfl, o2.keep k3⟩
              · rintro k T H4 hk ⟨t1, t4, t5, k4, s, hs, hsl2, o4⟩
                have k04 := k01.trans k4
                have g4 := (k4.get H.nxt (by omega)).trans g1
                have hw4 := hsw.keep k04
                have hrow4 := hrv.keep k04
                by_cases hkn : k < (rows.getD i []).length
                · have hrg : rowGo seen ((rows.getD i []).take (k + 1)) = stepW s ((rows.getD i []).getD k 0) := by
                    unfold rowGo at hs ⊢
                    rw [take_snoc _ 0 hkn, foldlM_snoc, hs]
                    rfl
                  have hbad2 : stepW s ((rows.getD i []).getD k 0) = none → yardOk room rows = false := fun hn => hbad (by
                    rw [hstep]
                    exact foldlM_none stepW seen _ (k + 1) (by rw [← hn]; exact hrg))
                  simp (maxSteps := 4000000) (disch := omega) only [Zq, evO, vbox, wr, Zeq, if_true, if_false, Nat.reduceEqDiff, Nat.reduceAdd, Nat.reduceLeDiff, Nat.reduceSub, and_self, and_true, true_and, reduceIte, reduceCtorEq, eq_self, implies_true, forall_const, false_implies, imp_self, decide_true, decide_false, t1, t4, t5, g4, Sl.idx hw4 hin, hld H4 k04, hrow4.len_, hrow4.idx hkn, hrow4.ld hkn]
                  refine GO_call ((r_spec_l01In ((rows.getD i []).getD k 0) 1 9999 _).mono ?_)
                  rintro _ H5 ⟨k5, rfl⟩
                  by_cases hw : inR 1 9999 ((rows.getD i []).getD k 0) = true
                  · have o5 := o4.keep k5
                    simp (maxSteps := 4000000) (disch := omega) only [Zq, evO, vbox, wr, Zeq, if_true, if_false, Nat.reduceEqDiff, Nat.reduceAdd, Nat.reduceLeDiff, Nat.reduceSub, and_self, and_true, true_and, reduceIte, reduceCtorEq, eq_self, implies_true, forall_const, false_implies, imp_self, decide_true, decide_false, hw, t1, t4, t5]
                    refine GO_call ((r_spec_l01Has o5.ints (by omega)).mono ?_)
                    rintro _ H6 ⟨k6, rfl⟩
                    have o6 := o5.keep k6
                    by_cases hh : s.contains ((rows.getD i []).getD k 0) = true
                    · simp (maxSteps := 4000000) (disch := omega) only [Zq, evO, vbox, wr, Zeq, if_true, if_false, Nat.reduceEqDiff, Nat.reduceAdd, Nat.reduceLeDiff, Nat.reduceSub, and_self, and_true, true_and, reduceIte, reduceCtorEq, eq_self, implies_true, forall_const, false_implies, imp_self, decide_true, decide_false, hh, t1, t4, t5]
                      refine ⟨k01.trans (k4.trans (k5.trans k6)), ?_⟩
                      rw [hbad2 (by unfold stepW; rw [hh]; simp)]
                    · have hh' : s.contains ((rows.getD i []).getD k 0) = false := by simpa using hh
                      obtain ⟨x, H7, e7, o7, k7, n7⟩ := o6.one (z := (rows.getD i []).getD k 0) (bytes := 8) (by omega)
                      simp (maxSteps := 4000000) (disch := omega) only [Zq, evO, vbox, wr, Zeq, if_true, if_false, Nat.reduceEqDiff, Nat.reduceAdd, Nat.reduceLeDiff, Nat.reduceSub, and_self, and_true, true_and, reduceIte, reduceCtorEq, eq_self, implies_true, forall_const, false_implies, imp_self, decide_true, decide_false, hh', t1, t4, t5, e7]
                      refine ⟨hkn, k7 (k4.trans (k5.trans k6)), s ++ [(rows.getD i []).getD k 0], ?_, by simp; omega, o7⟩
                      rw [hrg]
                      unfold stepW
                      rw [hw, hh']
                      rfl
                  · have hw' : inR 1 9999 ((rows.getD i []).getD k 0) = false := by simpa using hw
                    simp (maxSteps := 4000000) (disch := omega) only [Zq, evO, vbox, wr, Zeq, if_true, if_false, Nat.reduceEqDiff, Nat.reduceAdd, Nat.reduceLeDiff, Nat.reduceSub, and_self, and_true, true_and, reduceIte, reduceCtorEq, eq_self, implies_true, forall_const, false_implies, imp_self, decide_true, decide_false, hw', t1, t4, t5]
                    refine ⟨k01.trans (k4.trans k5), ?_⟩
                    rw [hbad2 (by unfold stepW; rw [hw']; simp)]
                · obtain rfl : k = (rows.getD i []).length := by omega
                  rw [List.take_length] at hs
                  simp (maxSteps := 4000000) (disch := omega) only [Zq, evO, vbox, wr, Zeq, if_true, if_false, Nat.reduceEqDiff, Nat.reduceAdd, Nat.reduceLeDiff, Nat.reduceSub, and_self, and_true, true_and, reduceIte, reduceCtorEq, eq_self, implies_true, forall_const, false_implies, imp_self, decide_true, decide_false, t1, t4, t5, g4, Sl.idx hw4 hin, hld H4 k04, hrow4.len_]
                  refine ⟨hin, k4, s, by rw [hgo1, hstep]; exact hs, by omega, o4⟩
            · have hnone : stepR seen (room.getD i 0, rows.getD i []) = none := by
                unfold stepR
                rw [if_neg (by simp only [hc2, decide_false, Bool.and_false, Bool.false_eq_true, not_false_eq_true])]
              simp (maxSteps := 4000000) (disch := omega) only [Zq, evO, vbox, wr, Zeq, if_true, if_false, Nat.reduceEqDiff, Nat.reduceAdd, Nat.reduceLeDiff, Nat.reduceSub, and_self, and_true, true_and, reduceIte, reduceCtorEq, eq_self, implies_true, forall_const, false_implies, imp_self, decide_true, decide_false, hc1, t1, t4, g3, Sl.idx hw3 hin, hld H3 k03, hrow3.len_, hv3.idx hir, hv3.ld hir]
              exact ⟨k03, by rw [hbad hnone]⟩
          · have hc1' : inR 1 40 (room.getD i 0) = false := by simpa using hc1
            have hnone : stepR seen (room.getD i 0, rows.getD i []) = none := by
              unfold stepR
              rw [if_neg (by simp only [hc1', Bool.false_and, Bool.false_eq_true, not_false_eq_true])]
            simp (maxSteps := 4000000) (disch := omega) only [Zq, evO, vbox, wr, Zeq, if_true, if_false, Nat.reduceEqDiff, Nat.reduceAdd, Nat.reduceLeDiff, Nat.reduceSub, and_self, and_true, true_and, reduceIte, reduceCtorEq, eq_self, implies_true, forall_const, false_implies, imp_self, decide_true, decide_false, hc1', t1, t4]
            exact ⟨k03, by rw [hbad hnone]⟩
        · obtain rfl : i = rows.length := by omega
          simp (maxSteps := 4000000) (disch := omega) only [Zq, evO, vbox, wr, Zeq, if_true, if_false, Nat.reduceEqDiff, Nat.reduceAdd, Nat.reduceLeDiff, Nat.reduceSub, and_self, and_true, true_and, reduceIte, reduceCtorEq, eq_self, implies_true, forall_const, false_implies, imp_self, decide_true, decide_false, t1, t4, g2, hw2.len_]
          refine ⟨k02, ?_⟩
          rw [List.take_of_length_le (by omega)] at hgo
          rw [hyard, hgo]
          rfl
    · simp (maxSteps := 4000000) (disch := omega) only [Zq, evO, vbox, wr, Zeq, if_true, if_false, Nat.reduceEqDiff, Nat.reduceAdd, Nat.reduceLeDiff, Nat.reduceSub, and_self, and_true, true_and, reduceIte, reduceCtorEq, eq_self, implies_true, forall_const, false_implies, imp_self, decide_true, decide_false, hr6, g1, hv.len_, hsw.len_]
      refine ⟨(Keep.push _ _).trans k1, ?_⟩
      simp [yardOk, heq]
  · have hr6' : inR 1 6 (room.length : Int) = false := by simpa using hr6
    simp (maxSteps := 4000000) (disch := omega) only [Zq, evO, vbox, wr, Zeq, if_true, if_false, Nat.reduceEqDiff, Nat.reduceAdd, Nat.reduceLeDiff, Nat.reduceSub, and_self, and_true, true_and, reduceIte, reduceCtorEq, eq_self, implies_true, forall_const, false_implies, imp_self, decide_true, decide_false, hr6']
    refine ⟨(Keep.push _ _).trans k1, ?_⟩
    by_cases heq : room.length = rows.length
    · rw [heq] at hr6'
      simp [yardOk, hr6']
    · simp [yardOk, heq]
end Go.Proofs.Ytkadelndmaegdaa.AX
