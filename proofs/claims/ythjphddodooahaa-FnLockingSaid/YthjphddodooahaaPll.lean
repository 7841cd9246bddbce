/- Lockings: requesting a route, of the program. No condition beyond each law's own; of the program: the functions' forms. -/
import Derived.Test.YthjphddodooahaaPli
namespace Go.Proofs.Ythjphddodooahaa.AX
open Go
set_option maxRecDepth 10000
set_option maxHeartbeats 4000000
set_option linter.unusedSimpArgs false
set_option linter.unusedVariables false
theorem slc_elK {α : Type} {r : Rep α} {B : Heap} {v : Value} {xs : List α} {i sz : Nat} (hz : r.sz = sz) (h0 : 0 < sz) (h : (rSlc r).rd B [v] xs) (hi : i < xs.length) : ∃ row, r.rd B row xs[i] ∧ row.length = sz ∧ ∀ H, Keep B H → vldN H sz (adr v i sz 0) = some (.agg row.toArray, H) ∧ ∀ o c, row[o]? = some c → vld1 H (adr v i sz o) = some (c, H) := by
  obtain ⟨w, rows, e, h1, hr⟩ := h
  obtain rfl : v = w := by simpa using e
  obtain ⟨row, h2, h3⟩ := rows_get hr hi
  have hrow := flat_row hr.sz h2
  rw [hz] at hrow h1
  have hl : row.length = sz := by rw [r.len h3, hz]
  refine ⟨row, h3, hl, fun H k => ⟨?_, fun o c hc => ?_⟩⟩
  · have := Sl.ldN (o := 0) (m := sz) (h1.keep k) hi h0 (by omega)
    rwa [Nat.add_zero, hrow] at this
  · refine Sl.ld (h1.keep k) hi ?_
    have ho := (List.getElem?_eq_some_iff.1 hc).1
    exact row_get hrow (by omega) hc
theorem route_elK {B : Heap} {v : Value} {l : List Rt} {i : Nat} (h : (rSlc rRoute).rd B [v] l) (hi : i < l.length) : ∃ vn vb, (rSlc rNeed).rd B [vn] (rt l i).1 ∧ (rSlc rInt).rd B [vb] (rt l i).2 ∧ ∀ H, Keep B H → vldN H 2 (adr v i 2 0) = some (.agg #[vn, vb], H) ∧ vld1 H (adr v i 2 0) = some (vn, H) ∧ vld1 H (adr v i 2 1) = some (vb, H) := by
  obtain ⟨row, h1, _, h2⟩ := slc_elK (sz := 2) rfl (by omega) h hi
  obtain ⟨vn, vb, rfl, hn, hb⟩ := route_rd (x0 := l[i].1) (x1 := l[i].2) h1
  rw [rt, getD_get _ _ hi]
  exact ⟨vn, vb, hn, hb, fun H k => ⟨(h2 H k).1, (h2 H k).2 0 _ rfl, (h2 H k).2 1 _ rfl⟩⟩
def stNo (pos : List Int) (tk : List Bool) (under : List Int) (l : List Nd) (i : Nat) : Bool := decide (pos.getD (nd l i).1.toNat 0 = (nd l i).2) || !(tk.getD (under.getD (nd l i).1.toNat 0).toNat false)
def setN (pos : List Int) (l : List Nd) : List Int := l.foldl (fun p x => p.set x.1.toNat x.2) pos
theorem setN_succ {pos : List Int} {l : List Nd} {i : Nat} (h : i < l.length) : setN pos (l.take (i + 1)) = (setN pos (l.take i)).set (nd l i).1.toNat (nd l i).2 := by
  unfold setN
  rw [take_snoc l (0, 0) h, List.foldl_append]
  rfl
theorem setN_len {pos : List Int} (l : List Nd) : (setN pos l).length = pos.length := by
  unfold setN
  induction l generalizing pos with
  | nil => rfl
  | cons x l ih => rw [List.foldl_cons, ih, List.length_set]
def rqR (under : List Int) (b : Int) (routes : List Rt) (L : Lo) (k : Int) : Lo × Int :=
  if inR 0 ((routes.length : Int) - 1) k = true then
    (if L.2.1.getD k.toNat false = true then (L, 2) else
      (if allTo routes.length (agRow L.2.1 routes k.toNat) = true then
        (if freeR L.2.2 (rt routes k.toNat).2 = true then
          (if allTo (rt routes k.toNat).1.length (stNo L.1 L.2.2 under (rt routes k.toNat).1) = true then ((setN L.1 (rt routes k.toNat).1, L.2.1.set k.toNat true, L.2.2), 0) else (L, 5))
        else (L, 4))
      else (L, 3)))
  else (L, 1)
theorem r_impl_request : IsOp 80 rqR := by
  intro P B H q v w u vu vr F0 F1 F2 under b routes pos set tk k kB hP hu hr tt hL hok
  obtain ⟨hpl, l1, l2, l3⟩ := lkOk_get hok
  obtain ⟨b1, b2, _, r12, hun, hrt⟩ := plOk_get hpl
  obtain ⟨m1, m2, m3⟩ := plant_tot' tt
  have lr : ∀ H : Heap, vlen H vr = some (.int .i64 routes.length, H) := fun _ => slc_len hr
  have hwb : IntKind.i64.wrap ((routes.length : Int) - 1) = (routes.length : Int) - 1 := wrap64 (by omega) (by omega)
  refine Run.intro c80 rfl ?_
  simp (maxSteps := 4000000) (disch := omega) only [Zq, evO, vbox, wr, Zeq, if_true, if_false, Nat.reduceEqDiff, Nat.reduceAdd, Nat.reduceLeDiff, Nat.reduceSub, and_self, and_true, true_and, reduceIte, reduceCtorEq, eq_self, implies_true, forall_const, false_implies, imp_self, decide_true, decide_false, x80, lr, hwb]
  generalize hG0 : H.push [vu, .int .i64 b, vr] = H0
  have k0 : Keep H H0 := by rw [← hG0]; exact Keep.push _ _
  have g0 : H0.get H.nxt = some (.own [vu, .int .i64 b, vr]) := by rw [← hG0, push_get', if_pos rfl]
  have n0 : H0.nxt = H.nxt + 1 := by rw [← hG0, Zbg]
  refine GO_call ((r_impl_between k 0 ((routes.length : Int) - 1) _).mono ?_)
  rintro _ H1 ⟨k1, rfl⟩
  have n1 := k1.nxt
  have g1 := (k1.get (H.nxt) (by omega)).trans g0
  have hL1 := (hL.keep k0).keep k1
  have kk := KpP.of (P := P) (k0.trans k1)
  have g1q := hL1.g
  by_cases c1 : inR 0 ((routes.length : Int) - 1) k = true
  rotate_left
  · have c1' : inR 0 ((routes.length : Int) - 1) k = false := by simpa using c1
    simp (maxSteps := 4000000) (disch := omega) only [Zq, evO, vbox, wr, Zeq, if_true, if_false, Nat.reduceEqDiff, Nat.reduceAdd, Nat.reduceLeDiff, Nat.reduceSub, and_self, and_true, true_and, reduceIte, reduceCtorEq, eq_self, implies_true, forall_const, false_implies, imp_self, decide_true, decide_false, fix_nil, fix_cons, g0, g1, g1q, c1']
    rw [rqR, if_neg c1]
    exact ⟨kk, hL1, rfl⟩
  obtain ⟨n, rfl, hn⟩ := int_nat c1
  have hnr : n < routes.length := by omega
  have hns : n < set.length := by omega
  have hv : rqR under b routes (pos, set, tk) n = (if set.getD n false = true then ((pos, set, tk), 2) else (if allTo routes.length (agRow set routes n) = true then (if freeR tk (rt routes n).2 = true then (if allTo (rt routes n).1.length (stNo pos tk under (rt routes n).1) = true then ((setN pos (rt routes n).1, set.set n true, tk), 0) else ((pos, set, tk), 5)) else ((pos, set, tk), 4)) else ((pos, set, tk), 3))) := by rw [rqR, if_pos c1, Int.toNat_natCast]
  rw [hv]
  have kB1 := kB.trans (k0.trans k1)
  obtain ⟨vn, vb, hnn, hbb, ld⟩ := route_elK hr hnr
  obtain ⟨r1, r2⟩ := rt_tot m3 hnr
  have ixs := fun H0 : Heap => slc_idx (r := rBool) (H1 := H0) (sz := 1) (i := n) (k := .i64) rfl ((rSlc rBool).ownrd hL1.o1) hns
  have e3 := (ld H1 kB1).1
  have kx : Keep H1 ((H1.push [.slice none 0 0, .slice none 0 0]).set H1.nxt [vn, vb]) := by repeat' (first | exact Keep.refl _ | assumption | refine Keep.push' ?_ | refine Keep.set' ?_ ?_ | refine Keep.moved' ?_ ?_ | omega)
  have hL2 := hL1.keep kx
  have hqn : q ≠ H1.nxt := by have := hL1.lt; omega
  have es := bool_el ((rSlc rBool).ownrd hL2.o1) hns
  have kk2 := kk.trans (KpP.of kx)
  by_cases c2 : set.getD n false = true
  · rw [if_pos c2]
    rw [c2] at es
    simp (maxSteps := 4000000) (disch := omega) only [Zq, evO, vbox, wr, Zeq, if_true, if_false, Nat.reduceEqDiff, Nat.reduceAdd, Nat.reduceLeDiff, Nat.reduceSub, and_self, and_true, true_and, reduceIte, reduceCtorEq, eq_self, implies_true, forall_const, false_implies, imp_self, decide_true, decide_false, fix_nil, fix_cons, g0, g1, g1q, c1, slc_idx (r := rRoute) (sz := 2) rfl hr hnr, e3, ixs, es]
    exact ⟨kk2, hL2⟩
  have c2' : set.getD n false = false := by simpa using c2
  rw [if_neg c2]
  rw [c2'] at es
  simp (maxSteps := 4000000) (disch := omega) only [Zq, evO, vbox, wr, Zeq, if_true, if_false, Nat.reduceEqDiff, Nat.reduceAdd, Nat.reduceLeDiff, Nat.reduceSub, and_self, and_true, true_and, reduceIte, reduceCtorEq, eq_self, implies_true, forall_const, false_implies, imp_self, decide_true, decide_false, fix_nil, fix_cons, g0, g1, g1q, c1, slc_idx (r := rRoute) (sz := 2) rfl hr hnr, e3, ixs, es, lr]
  have g2x : ((H1.push [.slice none 0 0, .slice none 0 0]).set H1.nxt [vn, vb]).get H1.nxt = some (.own [vn, vb]) := by rw [Zbi, if_pos rfl]
  have n2x : ((H1.push [.slice none 0 0, .slice none 0 0]).set H1.nxt [vn, vb]).nxt = H1.nxt + 1 := by rw [Zbh, Zbg]
  generalize (H1.push [.slice none 0 0, .slice none 0 0]).set H1.nxt [vn, vb] = H2 at *
  have g2b := (kx.get H.nxt (by omega)).trans g1
  have kB2 := kB1.trans kx
  clear e3 es
  first | refine G_fix [0, 2, 4, 7, 34, 35] ?_ | refine GO_fix [0, 2, 4, 7, 34, 35] ?_ | refine cK_fix [0, 2, 4, 7, 34, 35] ?_
  intro T hT
  simp only [fix_nil, fix_cons, Zq, evO, vbox, wr, Zeq, if_true, if_false, Nat.reduceEqDiff, Nat.reduceAdd, Nat.reduceLeDiff, Nat.reduceSub, and_self, and_true, true_and, reduceIte, reduceCtorEq, eq_self, implies_true, forall_const, false_implies, imp_self, decide_true, decide_false] at hT
  obtain ⟨t0, t2, t4, t7, t34, t35⟩ := hT
  refine G_forF [0, 2, 4, 7, 34] (routes.length) (fun j T H3 => T 35 = .int .i64 (j : Int) ∧ Keep H2 H3 ∧ ∀ a, a < j → agRow set routes n a = true) 0 (Nat.zero_le _) ?_ ?_
  · simp (maxSteps := 4000000) (disch := omega) only [Zq, evO, vbox, wr, Zeq, if_true, if_false, Nat.reduceEqDiff, Nat.reduceAdd, Nat.reduceLeDiff, Nat.reduceSub, and_self, and_true, true_and, reduceIte, reduceCtorEq, eq_self, implies_true, forall_const, false_implies, imp_self, decide_true, decide_false, fix_nil, fix_cons, g0, g1, g1q, g2x, g2b, t0, t2, t4, t7, t34, t35]
    exact ⟨Keep.refl _, fun j hj => by omega⟩
  rintro j T H3 hj hT ⟨t35, k3, ha⟩
  simp only [fix_nil, fix_cons, Zq, evO, vbox, wr, Zeq, if_true, if_false, Nat.reduceEqDiff, Nat.reduceAdd, Nat.reduceLeDiff, Nat.reduceSub, and_self, and_true, true_and, reduceIte, reduceCtorEq, eq_self, implies_true, forall_const, false_implies, imp_self, decide_true, decide_false, t0, t2, t4, t7, t34, t35] at hT
  obtain ⟨t0, t2, t4, t7, t34⟩ := hT
  have n3 := k3.nxt
  have hL3 := hL2.keep k3
  have kk3 := kk2.trans (KpP.of k3)
  have kB3 := kB2.trans k3
  have g3q := hL3.g
  have g3x := (k3.get H1.nxt (by omega)).trans g2x
  have g3b := (k3.get H.nxt (by omega)).trans g2b
  by_cases hja : j < routes.length
  · have hjs : j < set.length := by omega
    have es := bool_el ((rSlc rBool).ownrd hL3.o1) hjs
    have ixj := fun H0 : Heap => slc_idx (r := rBool) (H1 := H0) (sz := 1) (i := j) (k := .i64) rfl ((rSlc rBool).ownrd hL3.o1) hjs
    obtain ⟨wn, wb, hwn, hwb2, ldj⟩ := route_elK hr hja
    obtain ⟨q1, q2⟩ := rt_tot m3 hja
    have e7 := (ldj H3 kB3).1
    by_cases c6 : set.getD j false = true
    rotate_left
    · have c6' : set.getD j false = false := by simpa using c6
      rw [c6'] at es
      simp (maxSteps := 4000000) (disch := omega) only [Zq, evO, vbox, wr, Zeq, if_true, if_false, Nat.reduceEqDiff, Nat.reduceAdd, Nat.reduceLeDiff, Nat.reduceSub, and_self, and_true, true_and, reduceIte, reduceCtorEq, eq_self, implies_true, forall_const, false_implies, imp_self, decide_true, decide_false, fix_nil, fix_cons, g0, g1, g1q, g2x, g2b, t0, t2, t4, t7, t34, t35, g3q, g3x, g3b]
      refine G_tame rfl ?_
      simp (maxSteps := 4000000) (disch := omega) only [Zq, evO, vbox, wr, Zeq, if_true, if_false, Nat.reduceEqDiff, Nat.reduceAdd, Nat.reduceLeDiff, Nat.reduceSub, and_self, and_true, true_and, reduceIte, reduceCtorEq, eq_self, implies_true, forall_const, false_implies, imp_self, decide_true, decide_false, fix_nil, fix_cons, g0, g1, g1q, g2x, g2b, t0, t2, t4, t7, t34, t35, g3q, g3x, g3b, ixj, es]
      exact ⟨hja, k3, upto_succ ha (by rw [agRow, c6']; rfl)⟩
    rw [c6] at es
    simp (maxSteps := 4000000) (disch := omega) only [Zq, evO, vbox, wr, Zeq, if_true, if_false, Nat.reduceEqDiff, Nat.reduceAdd, Nat.reduceLeDiff, Nat.reduceSub, and_self, and_true, true_and, reduceIte, reduceCtorEq, eq_self, implies_true, forall_const, false_implies, imp_self, decide_true, decide_false, fix_nil, fix_cons, g0, g1, g1q, g2x, g2b, t0, t2, t4, t7, t34, t35, g3q, g3x, g3b]
    refine G_tame rfl ?_
    simp (maxSteps := 4000000) (disch := omega) only [Zq, evO, vbox, wr, Zeq, if_true, if_false, Nat.reduceEqDiff, Nat.reduceAdd, Nat.reduceLeDiff, Nat.reduceSub, and_self, and_true, true_and, reduceIte, reduceCtorEq, eq_self, implies_true, forall_const, false_implies, imp_self, decide_true, decide_false, fix_nil, fix_cons, g0, g1, g1q, g2x, g2b, t0, t2, t4, t7, t34, t35, g3q, g3x, g3b, ixj, es, slc_idx (r := rRoute) (sz := 2) rfl hr hja, e7]
    refine GO_call ((r_impl_against (a := rt routes n) (b := rt routes j) ((rSlc rNeed).rdk hnn kB3) ((rSlc rInt).rdk hbb kB3) ((rSlc rNeed).rdk hwn kB3) ((rSlc rInt).rdk hwb2 kB3) r1 r2 q1 q2).mono ?_)
    rintro _ H4 ⟨k4, rfl⟩
    have n4 := k4.nxt
    by_cases d1 : agNo (rt routes n) (rt routes j) = true
    · simp (maxSteps := 4000000) (disch := omega) only [Zq, evO, vbox, wr, Zeq, if_true, if_false, Nat.reduceEqDiff, Nat.reduceAdd, Nat.reduceLeDiff, Nat.reduceSub, and_self, and_true, true_and, reduceIte, reduceCtorEq, eq_self, implies_true, forall_const, false_implies, imp_self, decide_true, decide_false, fix_nil, fix_cons, g0, g1, g1q, g2x, g2b, t0, t2, t4, t7, t34, t35, g3q, g3x, g3b, d1]
      exact ⟨hja, k3.trans k4, upto_succ ha (by rw [agRow, d1]; simp)⟩
    · have d1' : agNo (rt routes n) (rt routes j) = false := by simpa using d1
      rw [if_neg (by rw [allTo_bad hja (by rw [agRow, c6, d1']; rfl)]; simp)]
      simp (maxSteps := 4000000) (disch := omega) only [Zq, evO, vbox, wr, Zeq, if_true, if_false, Nat.reduceEqDiff, Nat.reduceAdd, Nat.reduceLeDiff, Nat.reduceSub, and_self, and_true, true_and, reduceIte, reduceCtorEq, eq_self, implies_true, forall_const, false_implies, imp_self, decide_true, decide_false, fix_nil, fix_cons, g0, g1, g1q, g2x, g2b, t0, t2, t4, t7, t34, t35, g3q, g3x, g3b, d1']
      exact ⟨kk3.trans (KpP.of k4), hL3.keep k4⟩
  obtain rfl : j = routes.length := by omega
  rw [if_pos (allTo_iff.2 ha)]
  simp (maxSteps := 4000000) (disch := omega) only [Zq, evO, vbox, wr, Zeq, if_true, if_false, Nat.reduceEqDiff, Nat.reduceAdd, Nat.reduceLeDiff, Nat.reduceSub, and_self, and_true, true_and, reduceIte, reduceCtorEq, eq_self, implies_true, forall_const, false_implies, imp_self, decide_true, decide_false, fix_nil, fix_cons, g0, g1, g1q, g2x, g2b, t0, t2, t4, t7, t34, t35, g3q, g3x, g3b]
  refine GO_call_eq (by simp (maxSteps := 4000000) (disch := omega) only [Zq, evO, vbox, wr, Zeq, if_true, if_false, Nat.reduceEqDiff, Nat.reduceAdd, Nat.reduceLeDiff, Nat.reduceSub, and_self, and_true, true_and, reduceIte, reduceCtorEq, eq_self, implies_true, forall_const, false_implies, imp_self, decide_true, decide_false, fix_nil, fix_cons, g0, g1, g1q, g2x, g2b, t0, t2, t4, t7, t34, t35, g3q, g3x, g3b]) ((r_impl_occupied (va := vn) hL3 ((rSlc rInt).rdk hbb kB3) r2 (fun i hi => by have := rtOk_bk (hrt n hnr) hi; omega)).mono ?_)
  rintro _ H4 ⟨k4, rfl⟩
  have n4 := k4.nxt
  have hL4 := hL3.keep k4
  have kk4 := kk3.trans (KpP.of k4)
  have kB4 := kB3.trans k4
  have g4q := hL4.g
  have g4x := (k4.get H1.nxt (by omega)).trans g3x
  have g4b := (k4.get H.nxt (by omega)).trans g3b
  have ln : ∀ H : Heap, vlen H vn = some (.int .i64 (rt routes n).1.length, H) := fun _ => slc_len hnn
  by_cases c3 : freeR tk (rt routes n).2 = true
  rotate_left
  · have c3' : freeR tk (rt routes n).2 = false := by simpa using c3
    rw [if_neg c3]
    simp (maxSteps := 4000000) (disch := omega) only [Zq, evO, vbox, wr, Zeq, if_true, if_false, Nat.reduceEqDiff, Nat.reduceAdd, Nat.reduceLeDiff, Nat.reduceSub, and_self, and_true, true_and, reduceIte, reduceCtorEq, eq_self, implies_true, forall_const, false_implies, imp_self, decide_true, decide_false, fix_nil, fix_cons, g0, g1, g1q, g2x, g2b, t0, t2, t4, t7, t34, t35, g3q, g3x, g3b, g4q, g4x, g4b, c3']
    exact ⟨kk4, hL4⟩
  rw [if_pos c3]
  simp (maxSteps := 4000000) (disch := omega) only [Zq, evO, vbox, wr, Zeq, if_true, if_false, Nat.reduceEqDiff, Nat.reduceAdd, Nat.reduceLeDiff, Nat.reduceSub, and_self, and_true, true_and, reduceIte, reduceCtorEq, eq_self, implies_true, forall_const, false_implies, imp_self, decide_true, decide_false, fix_nil, fix_cons, g0, g1, g1q, g2x, g2b, t0, t2, t4, t7, t34, t35, g3q, g3x, g3b, g4q, g4x, g4b, c3, ln]
  first | refine G_fix [0, 2, 4, 7, 59, 60, 61] ?_ | refine GO_fix [0, 2, 4, 7, 59, 60, 61] ?_ | refine cK_fix [0, 2, 4, 7, 59, 60, 61] ?_
  intro T hT
  simp only [fix_nil, fix_cons, Zq, evO, vbox, wr, Zeq, if_true, if_false, Nat.reduceEqDiff, Nat.reduceAdd, Nat.reduceLeDiff, Nat.reduceSub, and_self, and_true, true_and, reduceIte, reduceCtorEq, eq_self, implies_true, forall_const, false_implies, imp_self, decide_true, decide_false, t0, t2, t4, t7, t34, t35] at hT
  obtain ⟨t0, t2, t4, t7, t59, t60, t61⟩ := hT
  have hpt : ∀ i, i < (rt routes n).1.length → (nd (rt routes n).1 i).1.toNat < pos.length ∧ (nd (rt routes n).1 i).1 = (((nd (rt routes n).1 i).1.toNat : Nat) : Int) := fun i hi => by have := rtOk_nd (hrt n hnr) hi; omega
  refine G_forF [0, 2, 4, 7, 59, 60] ((rt routes n).1.length) (fun i T H5 => T 61 = .int .i64 (i : Int) ∧ Keep H4 H5 ∧ ∀ a, a < i → stNo pos tk under (rt routes n).1 a = true) 0 (Nat.zero_le _) ?_ ?_
  · simp (maxSteps := 4000000) (disch := omega) only [Zq, evO, vbox, wr, Zeq, if_true, if_false, Nat.reduceEqDiff, Nat.reduceAdd, Nat.reduceLeDiff, Nat.reduceSub, and_self, and_true, true_and, reduceIte, reduceCtorEq, eq_self, implies_true, forall_const, false_implies, imp_self, decide_true, decide_false, fix_nil, fix_cons, g0, g1, g1q, g2x, g2b, t0, t2, t4, t7, t34, t35, g3q, g3x, g3b, g4q, g4x, g4b, t59, t60, t61]
    exact ⟨Keep.refl _, fun j hj => by omega⟩
  rintro i T H5 hi hT ⟨t61, k5, hs⟩
  simp only [fix_nil, fix_cons, Zq, evO, vbox, wr, Zeq, if_true, if_false, Nat.reduceEqDiff, Nat.reduceAdd, Nat.reduceLeDiff, Nat.reduceSub, and_self, and_true, true_and, reduceIte, reduceCtorEq, eq_self, implies_true, forall_const, false_implies, imp_self, decide_true, decide_false, t0, t2, t4, t7, t34, t35, t59, t60, t61] at hT
  obtain ⟨t0, t2, t4, t7, t59, t60⟩ := hT
  have n5 := k5.nxt
  have hL5 := hL4.keep k5
  have kk5 := kk4.trans (KpP.of k5)
  have kB5 := kB4.trans k5
  have g5q := hL5.g
  have g5x := (k5.get H1.nxt (by omega)).trans g4x
  have g5b := (k5.get H.nxt (by omega)).trans g4b
  by_cases hil : i < (rt routes n).1.length
  · obtain ⟨e5, _, _⟩ := need_el ((rSlc rNeed).rdk hnn kB5) hil
    simp (maxSteps := 4000000) (disch := omega) only [Zq, evO, vbox, wr, Zeq, if_true, if_false, Nat.reduceEqDiff, Nat.reduceAdd, Nat.reduceLeDiff, Nat.reduceSub, and_self, and_true, true_and, reduceIte, reduceCtorEq, eq_self, implies_true, forall_const, false_implies, imp_self, decide_true, decide_false, fix_nil, fix_cons, g0, g1, g1q, g2x, g2b, t0, t2, t4, t7, t34, t35, g3q, g3x, g3b, g4q, g4x, g4b, t59, t60, t61, g5q, g5x, g5b, slc_idx (r := rNeed) (sz := 2) rfl hnn hil, e5]
    generalize hG6 : (H5.push [.int .i64 0, .int .i64 0]).set H5.nxt [.int .i64 (nd (rt routes n).1 i).1, .int .i64 (nd (rt routes n).1 i).2] = H6
    have k6 : Keep H5 H6 := by rw [← hG6]; repeat' (first | exact Keep.refl _ | assumption | refine Keep.push' ?_ | refine Keep.set' ?_ ?_ | refine Keep.moved' ?_ ?_ | omega)
    have g6 : H6.get H5.nxt = some (.own [.int .i64 (nd (rt routes n).1 i).1, .int .i64 (nd (rt routes n).1 i).2]) := by rw [← hG6, Zbi, if_pos rfl]
    have n6 : H6.nxt = H5.nxt + 1 := by rw [← hG6, Zbh, Zbg]
    have hL6 := hL5.keep k6
    have g6q := hL6.g
    have g6b := (k6.get H.nxt (by omega)).trans g5b
    have kk6 := kk5.trans (KpP.of k6)
    have kB6 := kB5.trans k6
    obtain ⟨p1, p2⟩ := hpt i hil
    have ixp : ∀ H0 : Heap, vidx H0 1 v (.int .i64 (nd (rt routes n).1 i).1) = some (adr v (nd (rt routes n).1 i).1.toNat 1 0, H0) := fun H0 => by
      have := slc_idx (r := rInt) (H1 := H0) (sz := 1) (k := .i64) rfl ((rSlc rInt).ownrd hL.o0) p1
      rwa [← p2] at this
    have ldp := IntsK.ld (ints_of ((rSlc rInt).ownrd hL6.o0)) p1
    have pu : (nd (rt routes n).1 i).1.toNat < under.length := by omega
    have ixu : ∀ H0 : Heap, vidx H0 1 vu (.int .i64 (nd (rt routes n).1 i).1) = some (adr vu (nd (rt routes n).1 i).1.toNat 1 0, H0) := fun H0 => by
      have := slc_idx (r := rInt) (H1 := H0) (sz := 1) (k := .i64) rfl hu pu
      rwa [← p2] at this
    have ldu := IntsK.ld ((ints_of hu).keep kB6) pu
    have hub := hun _ pu
    have tb : (under.getD (nd (rt routes n).1 i).1.toNat 0).toNat < tk.length := by omega
    have cst : under.getD (nd (rt routes n).1 i).1.toNat 0 = (((under.getD (nd (rt routes n).1 i).1.toNat 0).toNat : Nat) : Int) := by omega
    have ixt : ∀ H0 : Heap, vidx H0 1 u (.int .i64 (under.getD (nd (rt routes n).1 i).1.toNat 0)) = some (adr u (under.getD (nd (rt routes n).1 i).1.toNat 0).toNat 1 0, H0) := fun H0 => by
      have := slc_idx (r := rBool) (H1 := H0) (sz := 1) (k := .i64) rfl ((rSlc rBool).ownrd hL.o2) tb
      rwa [← cst] at this
    have et := bool_el ((rSlc rBool).ownrd hL6.o2) tb
    refine G_calm rfl ?_
    by_cases d1 : pos.getD (nd (rt routes n).1 i).1.toNat 0 = (nd (rt routes n).1 i).2
    · simp (maxSteps := 4000000) (disch := omega) only [Zq, evO, vbox, wr, Zeq, if_true, if_false, Nat.reduceEqDiff, Nat.reduceAdd, Nat.reduceLeDiff, Nat.reduceSub, and_self, and_true, true_and, reduceIte, reduceCtorEq, eq_self, implies_true, forall_const, false_implies, imp_self, decide_true, decide_false, fix_nil, fix_cons, g0, g1, g1q, g2x, g2b, t0, t2, t4, t7, t34, t35, g3q, g3x, g3b, g4q, g4x, g4b, t59, t60, t61, g5q, g5x, g5b, g6, g6q, g6b, ixp, ldp, Zfl d1]
      exact ⟨hil, k5.trans k6, upto_succ hs (by rw [stNo, decide_eq_true d1]; rfl)⟩
    · by_cases d2 : tk.getD (under.getD (nd (rt routes n).1 i).1.toNat 0).toNat false = true
      · rw [d2] at et
        rw [if_neg (by rw [allTo_bad hil (by rw [stNo, decide_eq_false d1, d2]; rfl)]; simp)]
        simp (maxSteps := 4000000) (disch := omega) only [Zq, evO, vbox, wr, Zeq, if_true, if_false, Nat.reduceEqDiff, Nat.reduceAdd, Nat.reduceLeDiff, Nat.reduceSub, and_self, and_true, true_and, reduceIte, reduceCtorEq, eq_self, implies_true, forall_const, false_implies, imp_self, decide_true, decide_false, fix_nil, fix_cons, g0, g1, g1q, g2x, g2b, t0, t2, t4, t7, t34, t35, g3q, g3x, g3b, g4q, g4x, g4b, t59, t60, t61, g5q, g5x, g5b, g6, g6q, g6b, ixp, ldp, Zfm d1, ixu, ldu, ixt, et]
        exact ⟨kk6, hL6⟩
      · have d2' : tk.getD (under.getD (nd (rt routes n).1 i).1.toNat 0).toNat false = false := by simpa using d2
        rw [d2'] at et
        simp (maxSteps := 4000000) (disch := omega) only [Zq, evO, vbox, wr, Zeq, if_true, if_false, Nat.reduceEqDiff, Nat.reduceAdd, Nat.reduceLeDiff, Nat.reduceSub, and_self, and_true, true_and, reduceIte, reduceCtorEq, eq_self, implies_true, forall_const, false_implies, imp_self, decide_true, decide_false, fix_nil, fix_cons, g0, g1, g1q, g2x, g2b, t0, t2, t4, t7, t34, t35, g3q, g3x, g3b, g4q, g4x, g4b, t59, t60, t61, g5q, g5x, g5b, g6, g6q, g6b, ixp, ldp, Zfm d1, ixu, ldu, ixt, et]
        exact ⟨hil, k5.trans k6, upto_succ hs (by rw [stNo, d2']; simp)⟩
  obtain rfl : i = (rt routes n).1.length := by omega
  rw [if_pos (allTo_iff.2 hs)]
  simp (maxSteps := 4000000) (disch := omega) only [Zq, evO, vbox, wr, Zeq, if_true, if_false, Nat.reduceEqDiff, Nat.reduceAdd, Nat.reduceLeDiff, Nat.reduceSub, and_self, and_true, true_and, reduceIte, reduceCtorEq, eq_self, implies_true, forall_const, false_implies, imp_self, decide_true, decide_false, fix_nil, fix_cons, g0, g1, g1q, g2x, g2b, t0, t2, t4, t7, t34, t35, g3q, g3x, g3b, g4q, g4x, g4b, t59, t60, t61, g5q, g5x, g5b, ln]
  first | refine G_fix [0, 2, 92, 93, 94] ?_ | refine GO_fix [0, 2, 92, 93, 94] ?_ | refine cK_fix [0, 2, 92, 93, 94] ?_
  intro T hT
  simp only [fix_nil, fix_cons, Zq, evO, vbox, wr, Zeq, if_true, if_false, Nat.reduceEqDiff, Nat.reduceAdd, Nat.reduceLeDiff, Nat.reduceSub, and_self, and_true, true_and, reduceIte, reduceCtorEq, eq_self, implies_true, forall_const, false_implies, imp_self, decide_true, decide_false, t0, t2, t4, t7, t34, t35, t59, t60, t61] at hT
  obtain ⟨t0, t2, t92, t93, t94⟩ := hT
  refine G_forF [0, 2, 92, 93] ((rt routes n).1.length) (fun i T H6 => T 94 = .int .i64 (i : Int) ∧ KpP P H5 H6 ∧ Lk P H6 q v w u F0 F1 F2 (setN pos ((rt routes n).1.take i)) set tk) 0 (Nat.zero_le _) ?_ ?_
  · simp (maxSteps := 4000000) (disch := omega) only [Zq, evO, vbox, wr, Zeq, if_true, if_false, Nat.reduceEqDiff, Nat.reduceAdd, Nat.reduceLeDiff, Nat.reduceSub, and_self, and_true, true_and, reduceIte, reduceCtorEq, eq_self, implies_true, forall_const, false_implies, imp_self, decide_true, decide_false, fix_nil, fix_cons, g0, g1, g1q, g2x, g2b, t0, t2, t4, t7, t34, t35, g3q, g3x, g3b, g4q, g4x, g4b, t59, t60, t61, g5q, g5x, g5b, t92, t93, t94]
    exact ⟨KpP.refl _ _, hL5⟩
  rintro i T H6 hi hT ⟨t94, k6, hL6⟩
  simp only [fix_nil, fix_cons, Zq, evO, vbox, wr, Zeq, if_true, if_false, Nat.reduceEqDiff, Nat.reduceAdd, Nat.reduceLeDiff, Nat.reduceSub, and_self, and_true, true_and, reduceIte, reduceCtorEq, eq_self, implies_true, forall_const, false_implies, imp_self, decide_true, decide_false, t0, t2, t4, t7, t34, t35, t59, t60, t61, t92, t93, t94] at hT
  obtain ⟨t0, t2, t92, t93⟩ := hT
  have n6 := k6.nxt
  have kB6 : Keep B H6 := k6.keep kB5 hP
  have g6q := hL6.g
  by_cases hil : i < (rt routes n).1.length
  · obtain ⟨e5, _, _⟩ := need_el ((rSlc rNeed).rdk hnn kB6) hil
    simp (maxSteps := 4000000) (disch := omega) only [Zq, evO, vbox, wr, Zeq, if_true, if_false, Nat.reduceEqDiff, Nat.reduceAdd, Nat.reduceLeDiff, Nat.reduceSub, and_self, and_true, true_and, reduceIte, reduceCtorEq, eq_self, implies_true, forall_const, false_implies, imp_self, decide_true, decide_false, fix_nil, fix_cons, g0, g1, g1q, g2x, g2b, t0, t2, t4, t7, t34, t35, g3q, g3x, g3b, g4q, g4x, g4b, t59, t60, t61, g5q, g5x, g5b, t92, t93, t94, g6q, slc_idx (r := rNeed) (sz := 2) rfl hnn hil, e5]
    generalize hG7 : (H6.push [.int .i64 0, .int .i64 0]).set H6.nxt [.int .i64 (nd (rt routes n).1 i).1, .int .i64 (nd (rt routes n).1 i).2] = H7
    have k7 : Keep H6 H7 := by rw [← hG7]; repeat' (first | exact Keep.refl _ | assumption | refine Keep.push' ?_ | refine Keep.set' ?_ ?_ | refine Keep.moved' ?_ ?_ | omega)
    have g7 : H7.get H6.nxt = some (.own [.int .i64 (nd (rt routes n).1 i).1, .int .i64 (nd (rt routes n).1 i).2]) := by rw [← hG7, Zbi, if_pos rfl]
    have n7 : H7.nxt = H6.nxt + 1 := by rw [← hG7, Zbh, Zbg]
    have hL7 := hL6.keep k7
    have g7q := hL7.g
    obtain ⟨p1, p2⟩ := hpt i hil
    have p1' : (nd (rt routes n).1 i).1.toNat < (setN pos ((rt routes n).1.take i)).length := by rw [setN_len]; exact p1
    have ixp : ∀ H0 : Heap, vidx H0 1 v (.int .i64 (nd (rt routes n).1 i).1) = some (adr v (nd (rt routes n).1 i).1.toNat 1 0, H0) := fun H0 => by
      have := slc_idx (r := rInt) (H1 := H0) (sz := 1) (k := .i64) rfl ((rSlc rInt).ownrd hL.o0) p1
      rwa [← p2] at this
    obtain ⟨H8, e8, L8, q8, n8, _⟩ := hL7.st0 p1' (nd (rt routes n).1 i).2
    rw [← setN_succ hil] at L8
    refine G_tame rfl ?_
    simp (maxSteps := 4000000) (disch := omega) only [Zq, evO, vbox, wr, Zeq, if_true, if_false, Nat.reduceEqDiff, Nat.reduceAdd, Nat.reduceLeDiff, Nat.reduceSub, and_self, and_true, true_and, reduceIte, reduceCtorEq, eq_self, implies_true, forall_const, false_implies, imp_self, decide_true, decide_false, fix_nil, fix_cons, g0, g1, g1q, g2x, g2b, t0, t2, t4, t7, t34, t35, g3q, g3x, g3b, g4q, g4x, g4b, t59, t60, t61, g5q, g5x, g5b, t92, t93, t94, g6q, g7, g7q, ixp, e8]
    exact ⟨hil, (k6.trans (KpP.of k7)).trans q8, L8⟩
  obtain rfl : i = (rt routes n).1.length := by omega
  rw [List.take_length] at hL6
  obtain ⟨H7, e7, L7, q7, n7, _⟩ := hL6.st1 hns true
  simp (maxSteps := 4000000) (disch := omega) only [Zq, evO, vbox, wr, Zeq, if_true, if_false, Nat.reduceEqDiff, Nat.reduceAdd, Nat.reduceLeDiff, Nat.reduceSub, and_self, and_true, true_and, reduceIte, reduceCtorEq, eq_self, implies_true, forall_const, false_implies, imp_self, decide_true, decide_false, fix_nil, fix_cons, g0, g1, g1q, g2x, g2b, t0, t2, t4, t7, t34, t35, g3q, g3x, g3b, g4q, g4x, g4b, t59, t60, t61, g5q, g5x, g5b, t92, t93, t94, g6q, ixs, e7]
  exact ⟨(kk5.trans k6).trans q7, L7⟩
end Go.Proofs.Ythjphddodooahaa.AX
