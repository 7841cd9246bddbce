/- Lockings: withdrawing, of the program. No condition beyond each law's own; of the program: the functions' forms. -/
import Derived.Test.YthjphddodooahaaPlg
namespace Go.Proofs.Ythjphddodooahaa.AX
open Go
set_option maxRecDepth 10000
set_option maxHeartbeats 4000000
set_option linter.unusedSimpArgs false
set_option linter.unusedVariables false
/-- No block of a route is taken. -/
def freeR (tk : List Bool) (l : List Int) : Bool := allTo l.length (fun i => !(tk.getD (l.getD i 0).toNat false))
theorem r_impl_occupied {P : Nat → Prop} {H : Heap} {q : Nat} {v w u va vb : Value} {F0 F1 F2 : List Nat} {pos : List Int} {set tk : List Bool} {l : List Int} (hL : Lk P H q v w u F0 F1 F2 pos set tk) (hb : (rSlc rInt).rd H [vb] l) (bl : l.length ≤ 1048576) (hin : ∀ i, i < l.length → 0 ≤ l.getD i 0 ∧ l.getD i 0 < (tk.length : Int)) : Run Try.prog 91 [ptr q 0, .agg #[va, vb]] H fun x H' => Keep H H' ∧ x = .bool (!(freeR tk l)) := by
  have lb : ∀ H : Heap, vlen H vb = some (.int .i64 l.length, H) := fun _ => slc_len hb
  refine Run.intro c91 rfl ?_
  simp (maxSteps := 4000000) (disch := omega) only [Zq, evO, vbox, wr, Zeq, if_true, if_false, Nat.reduceEqDiff, Nat.reduceAdd, Nat.reduceLeDiff, Nat.reduceSub, and_self, and_true, true_and, reduceIte, reduceCtorEq, eq_self, implies_true, forall_const, false_implies, imp_self, decide_true, decide_false, x91, lb]
  generalize hG0 : H.push [va, vb] = H0
  have k0 : Keep H H0 := by rw [← hG0]; exact Keep.push _ _
  have g0 : H0.get H.nxt = some (.own [va, vb]) := by rw [← hG0, push_get', if_pos rfl]
  have n0 : H0.nxt = H.nxt + 1 := by rw [← hG0, Zbg]
  refine G_forF [0, 8, 9] (l.length) (fun i T H1 => T 10 = .int .i64 (i : Int) ∧ H1 = H0 ∧ ∀ j, j < i → (!(tk.getD (l.getD j 0).toNat false)) = true) 0 (Nat.zero_le _) ?_ ?_
  · simp (maxSteps := 4000000) (disch := omega) only [Zq, evO, vbox, wr, Zeq, if_true, if_false, Nat.reduceEqDiff, Nat.reduceAdd, Nat.reduceLeDiff, Nat.reduceSub, and_self, and_true, true_and, reduceIte, reduceCtorEq, eq_self, implies_true, forall_const, false_implies, imp_self, decide_true, decide_false, fix_nil, fix_cons, g0]
    exact fun j hj => by omega
  rintro i T H1 hi hT ⟨t10, h1, ha⟩
  simp only [fix_nil, fix_cons, Zq, evO, vbox, wr, Zeq, if_true, if_false, Nat.reduceEqDiff, Nat.reduceAdd, Nat.reduceLeDiff, Nat.reduceSub, and_self, and_true, true_and, reduceIte, reduceCtorEq, eq_self, implies_true, forall_const, false_implies, imp_self, decide_true, decide_false] at hT
  obtain ⟨t0, t8, t9⟩ := hT
  subst h1
  have g0q := (hL.keep k0).g
  by_cases hil : i < l.length
  · have hbi := (ints_of hb).keep k0
    have hlt := hin i hil
    have hn : (l.getD i 0).toNat < tk.length := by omega
    have cst : l.getD i 0 = (((l.getD i 0).toNat : Nat) : Int) := by omega
    have ixt : ∀ H0 : Heap, vidx H0 1 u (.int .i64 (l.getD i 0)) = some (adr u (l.getD i 0).toNat 1 0, H0) := fun H0 => by
      have := slc_idx (r := rBool) (H1 := H0) (sz := 1) (k := .i64) rfl ((rSlc rBool).ownrd hL.o2) hn
      rwa [← cst] at this
    have eb := bool_el ((rSlc rBool).ownrd (hL.keep k0).o2) hn
    by_cases c1 : tk.getD (l.getD i 0).toNat false = true
    · rw [c1] at eb
      simp (maxSteps := 4000000) (disch := omega) only [Zq, evO, vbox, wr, Zeq, if_true, if_false, Nat.reduceEqDiff, Nat.reduceAdd, Nat.reduceLeDiff, Nat.reduceSub, and_self, and_true, true_and, reduceIte, reduceCtorEq, eq_self, implies_true, forall_const, false_implies, imp_self, decide_true, decide_false, fix_nil, fix_cons, g0, t0, t8, t9, t10, g0q, hbi.idx hil, hbi.ld hil, ixt, eb]
      exact ⟨k0, by rw [freeR, allTo_bad (f := fun i => !(tk.getD (l.getD i 0).toNat false)) hil (by show (!_) = false; rw [c1]; rfl)]; rfl⟩
    · have c1' : tk.getD (l.getD i 0).toNat false = false := by simpa using c1
      rw [c1'] at eb
      simp (maxSteps := 4000000) (disch := omega) only [Zq, evO, vbox, wr, Zeq, if_true, if_false, Nat.reduceEqDiff, Nat.reduceAdd, Nat.reduceLeDiff, Nat.reduceSub, and_self, and_true, true_and, reduceIte, reduceCtorEq, eq_self, implies_true, forall_const, false_implies, imp_self, decide_true, decide_false, fix_nil, fix_cons, g0, t0, t8, t9, t10, g0q, hbi.idx hil, hbi.ld hil, ixt, eb]
      exact ⟨hil, upto_succ (f := fun i => !(tk.getD (l.getD i 0).toNat false)) ha (by show (!_) = true; rw [c1']; rfl)⟩
  obtain rfl : i = l.length := by omega
  simp (maxSteps := 4000000) (disch := omega) only [Zq, evO, vbox, wr, Zeq, if_true, if_false, Nat.reduceEqDiff, Nat.reduceAdd, Nat.reduceLeDiff, Nat.reduceSub, and_self, and_true, true_and, reduceIte, reduceCtorEq, eq_self, implies_true, forall_const, false_implies, imp_self, decide_true, decide_false, fix_nil, fix_cons, g0, t0, t8, t9, t10, g0q]
  exact ⟨k0, by rw [freeR, allTo_iff (f := fun i => !(tk.getD (l.getD i 0).toNat false)) |>.2 ha]; rfl⟩
def wiR (under : List Int) (b : Int) (routes : List Rt) (L : Lo) (k : Int) : Lo × Int :=
  if inR 0 ((routes.length : Int) - 1) k = true then (if L.2.1.getD k.toNat false = true then (if freeR L.2.2 (rt routes k.toNat).2 = true then ((L.1, L.2.1.set k.toNat false, L.2.2), 0) else (L, 4)) else (L, 6)) else (L, 1)
theorem r_impl_withdraw : IsOp 83 wiR := by
  intro P B H q v w u vu vr F0 F1 F2 under b routes pos set tk k kB hP hu hr tt hL hok
  obtain ⟨hpl, l1, l2, l3⟩ := lkOk_get hok
  obtain ⟨b1, b2, _, r12, _, hrt⟩ := plOk_get hpl
  obtain ⟨m1, m2, m3⟩ := plant_tot' tt
  have lr : ∀ H : Heap, vlen H vr = some (.int .i64 routes.length, H) := fun _ => slc_len hr
  have hwb : IntKind.i64.wrap ((routes.length : Int) - 1) = (routes.length : Int) - 1 := wrap64 (by omega) (by omega)
  refine Run.intro c83 rfl ?_
  simp (maxSteps := 4000000) (disch := omega) only [Zq, evO, vbox, wr, Zeq, if_true, if_false, Nat.reduceEqDiff, Nat.reduceAdd, Nat.reduceLeDiff, Nat.reduceSub, and_self, and_true, true_and, reduceIte, reduceCtorEq, eq_self, implies_true, forall_const, false_implies, imp_self, decide_true, decide_false, x83, lr, hwb]
  generalize hG0 : H.push [vu, .int .i64 b, vr] = H0
  have k0 : Keep H H0 := by rw [← hG0]; exact Keep.push _ _
  have g0 : H0.get H.nxt = some (.own [vu, .int .i64 b, vr]) := by rw [← hG0, push_get', if_pos rfl]
  have n0 : H0.nxt = H.nxt + 1 := by rw [← hG0, Zbg]
  refine GO_call ((r_impl_between k 0 ((routes.length : Int) - 1) _).mono ?_)
  rintro _ H1 ⟨k1, rfl⟩
  have n1 := k1.nxt
  have g1 := (k1.get (H.nxt) (by omega)).trans g0
  have hL1 := (hL.keep k0).keep k1
  have kk := KpP.of (P := P) (k0.trans k1)
  have g1q := hL1.g
  by_cases c1 : inR 0 ((routes.length : Int) - 1) k = true
  rotate_left
  · have c1' : inR 0 ((routes.length : Int) - 1) k = false := by simpa using c1
    simp (maxSteps := 4000000) (disch := omega) only [Zq, evO, vbox, wr, Zeq, if_true, if_false, Nat.reduceEqDiff, Nat.reduceAdd, Nat.reduceLeDiff, Nat.reduceSub, and_self, and_true, true_and, reduceIte, reduceCtorEq, eq_self, implies_true, forall_const, false_implies, imp_self, decide_true, decide_false, fix_nil, fix_cons, g0, g1, g1q, c1']
    rw [wiR, if_neg c1]
    exact ⟨kk, hL1, rfl⟩
  obtain ⟨n, rfl, hn⟩ := int_nat c1
  have hnr : n < routes.length := by omega
  have hns : n < set.length := by omega
  have eb := bool_el ((rSlc rBool).ownrd hL1.o1) hns
  have ixb := fun H0 : Heap => slc_idx (r := rBool) (H1 := H0) (sz := 1) (i := n) (k := .i64) rfl ((rSlc rBool).ownrd hL1.o1) hns
  have hv : wiR under b routes (pos, set, tk) n = (if set.getD n false = true then (if freeR tk (rt routes n).2 = true then ((pos, set.set n false, tk), 0) else ((pos, set, tk), 4)) else ((pos, set, tk), 6)) := by rw [wiR, if_pos c1, Int.toNat_natCast]
  rw [hv]
  by_cases c2 : set.getD n false = true
  rotate_left
  · have c2' : set.getD n false = false := by simpa using c2
    rw [if_neg c2]
    rw [c2'] at eb
    simp (maxSteps := 4000000) (disch := omega) only [Zq, evO, vbox, wr, Zeq, if_true, if_false, Nat.reduceEqDiff, Nat.reduceAdd, Nat.reduceLeDiff, Nat.reduceSub, and_self, and_true, true_and, reduceIte, reduceCtorEq, eq_self, implies_true, forall_const, false_implies, imp_self, decide_true, decide_false, fix_nil, fix_cons, g0, g1, g1q, c1, ixb, eb]
    exact ⟨kk, hL1⟩
  rw [if_pos c2]
  rw [c2] at eb
  have kB1 := kB.trans (k0.trans k1)
  obtain ⟨vn, vb, e3, _, _, hnn, hbb⟩ := route_el ((rSlc rRoute).rdk hr kB1) hnr
  obtain ⟨r1, r2⟩ := rt_tot m3 hnr
  simp (maxSteps := 4000000) (disch := omega) only [Zq, evO, vbox, wr, Zeq, if_true, if_false, Nat.reduceEqDiff, Nat.reduceAdd, Nat.reduceLeDiff, Nat.reduceSub, and_self, and_true, true_and, reduceIte, reduceCtorEq, eq_self, implies_true, forall_const, false_implies, imp_self, decide_true, decide_false, fix_nil, fix_cons, g0, g1, g1q, c1, ixb, eb, slc_idx (r := rRoute) (sz := 2) rfl hr hnr, e3]
  refine GO_call_eq (by simp (maxSteps := 4000000) (disch := omega) only [Zq, evO, vbox, wr, Zeq, if_true, if_false, Nat.reduceEqDiff, Nat.reduceAdd, Nat.reduceLeDiff, Nat.reduceSub, and_self, and_true, true_and, reduceIte, reduceCtorEq, eq_self, implies_true, forall_const, false_implies, imp_self, decide_true, decide_false, fix_nil, fix_cons, g0, g1, g1q]) ((r_impl_occupied (va := vn) hL1 hbb r2 (fun i hi => by have := rtOk_bk (hrt n hnr) hi; omega)).mono ?_)
  rintro _ H2 ⟨k2, rfl⟩
  have hL2 := hL1.keep k2
  have g2q := hL2.g
  have kk2 := kk.trans (KpP.of k2)
  by_cases c3 : freeR tk (rt routes n).2 = true
  · rw [if_pos c3]
    obtain ⟨H3, e3, L3, q3, n3, _⟩ := hL2.st1 hns false
    simp (maxSteps := 4000000) (disch := omega) only [Zq, evO, vbox, wr, Zeq, if_true, if_false, Nat.reduceEqDiff, Nat.reduceAdd, Nat.reduceLeDiff, Nat.reduceSub, and_self, and_true, true_and, reduceIte, reduceCtorEq, eq_self, implies_true, forall_const, false_implies, imp_self, decide_true, decide_false, fix_nil, fix_cons, g0, g1, g1q, g2q, c3, ixb, e3]
    exact ⟨kk2.trans q3, L3⟩
  · have c3' : freeR tk (rt routes n).2 = false := by simpa using c3
    rw [if_neg c3]
    simp (maxSteps := 4000000) (disch := omega) only [Zq, evO, vbox, wr, Zeq, if_true, if_false, Nat.reduceEqDiff, Nat.reduceAdd, Nat.reduceLeDiff, Nat.reduceSub, and_self, and_true, true_and, reduceIte, reduceCtorEq, eq_self, implies_true, forall_const, false_implies, imp_self, decide_true, decide_false, fix_nil, fix_cons, g0, g1, g1q, g2q, c3']
    exact ⟨kk2, hL2⟩
def occR (under : List Int) (b : Int) (routes : List Rt) (L : Lo) (k : Int) : Lo × Int :=
  if inR 0 (b - 1) k = true then (if L.2.2.getD k.toNat false = true then (L, 4) else (if allTo routes.length (fun a => !(L.2.1.getD a false && (rt routes a).2.contains k)) = true then (L, 6) else ((L.1, L.2.1, L.2.2.set k.toNat true), 0))) else (L, 1)
theorem r_impl_occupy : IsOp 81 occR := by
  intro P B H q v w u vu vr F0 F1 F2 under b routes pos set tk k kB hP hu hr tt hL hok
  obtain ⟨hpl, l1, l2, l3⟩ := lkOk_get hok
  obtain ⟨b1, b2, _, r12, _, hrt⟩ := plOk_get hpl
  obtain ⟨m1, m2, m3⟩ := plant_tot' tt
  have lr : ∀ H : Heap, vlen H vr = some (.int .i64 routes.length, H) := fun _ => slc_len hr
  have hwb : IntKind.i64.wrap (b - 1) = b - 1 := wrap64 (by omega) (by omega)
  refine Run.intro c81 rfl ?_
  simp (maxSteps := 4000000) (disch := omega) only [Zq, evO, vbox, wr, Zeq, if_true, if_false, Nat.reduceEqDiff, Nat.reduceAdd, Nat.reduceLeDiff, Nat.reduceSub, and_self, and_true, true_and, reduceIte, reduceCtorEq, eq_self, implies_true, forall_const, false_implies, imp_self, decide_true, decide_false, x81, hwb]
  generalize hG0 : H.push [vu, .int .i64 b, vr] = H0
  have k0 : Keep H H0 := by rw [← hG0]; exact Keep.push _ _
  have g0 : H0.get H.nxt = some (.own [vu, .int .i64 b, vr]) := by rw [← hG0, push_get', if_pos rfl]
  have n0 : H0.nxt = H.nxt + 1 := by rw [← hG0, Zbg]
  refine GO_call ((r_impl_between k 0 (b - 1) _).mono ?_)
  rintro _ H1 ⟨k1, rfl⟩
  have n1 := k1.nxt
  have g1 := (k1.get (H.nxt) (by omega)).trans g0
  have hL1 := (hL.keep k0).keep k1
  have kk := KpP.of (P := P) (k0.trans k1)
  have kB1 := kB.trans (k0.trans k1)
  have g1q := hL1.g
  by_cases c1 : inR 0 (b - 1) k = true
  rotate_left
  · have c1' : inR 0 (b - 1) k = false := by simpa using c1
    simp (maxSteps := 4000000) (disch := omega) only [Zq, evO, vbox, wr, Zeq, if_true, if_false, Nat.reduceEqDiff, Nat.reduceAdd, Nat.reduceLeDiff, Nat.reduceSub, and_self, and_true, true_and, reduceIte, reduceCtorEq, eq_self, implies_true, forall_const, false_implies, imp_self, decide_true, decide_false, fix_nil, fix_cons, g0, g1, g1q, c1']
    rw [occR, if_neg c1]
    exact ⟨kk, hL1, rfl⟩
  obtain ⟨n, rfl, hn⟩ := int_nat c1
  have hnt : n < tk.length := by omega
  have eb := bool_el ((rSlc rBool).ownrd hL1.o2) hnt
  have ixb := fun H0 : Heap => slc_idx (r := rBool) (H1 := H0) (sz := 1) (i := n) (k := .i64) rfl ((rSlc rBool).ownrd hL1.o2) hnt
  have hv : occR under b routes (pos, set, tk) n = (if tk.getD n false = true then ((pos, set, tk), 4) else (if allTo routes.length (fun a => !(set.getD a false && (rt routes a).2.contains (n : Int))) = true then ((pos, set, tk), 6) else ((pos, set, tk.set n true), 0))) := by rw [occR, if_pos c1, Int.toNat_natCast]
  rw [hv]
  by_cases c2 : tk.getD n false = true
  · rw [if_pos c2]
    rw [c2] at eb
    simp (maxSteps := 4000000) (disch := omega) only [Zq, evO, vbox, wr, Zeq, if_true, if_false, Nat.reduceEqDiff, Nat.reduceAdd, Nat.reduceLeDiff, Nat.reduceSub, and_self, and_true, true_and, reduceIte, reduceCtorEq, eq_self, implies_true, forall_const, false_implies, imp_self, decide_true, decide_false, fix_nil, fix_cons, g0, g1, g1q, c1, ixb, eb]
    exact ⟨kk, hL1⟩
  have c2' : tk.getD n false = false := by simpa using c2
  rw [if_neg c2]
  rw [c2'] at eb
  simp (maxSteps := 4000000) (disch := omega) only [Zq, evO, vbox, wr, Zeq, if_true, if_false, Nat.reduceEqDiff, Nat.reduceAdd, Nat.reduceLeDiff, Nat.reduceSub, and_self, and_true, true_and, reduceIte, reduceCtorEq, eq_self, implies_true, forall_const, false_implies, imp_self, decide_true, decide_false, fix_nil, fix_cons, g0, g1, g1q, c1, ixb, eb, lr]
  refine G_forF [0, 2, 23, 24] (routes.length) (fun a T H2 => T 25 = .int .i64 (a : Int) ∧ Keep H1 H2 ∧ ∀ j, j < a → (!(set.getD j false && (rt routes j).2.contains (n : Int))) = true) 0 (Nat.zero_le _) ?_ ?_
  · simp (maxSteps := 4000000) (disch := omega) only [Zq, evO, vbox, wr, Zeq, if_true, if_false, Nat.reduceEqDiff, Nat.reduceAdd, Nat.reduceLeDiff, Nat.reduceSub, and_self, and_true, true_and, reduceIte, reduceCtorEq, eq_self, implies_true, forall_const, false_implies, imp_self, decide_true, decide_false, fix_nil, fix_cons, g0, g1, g1q]
    exact ⟨Keep.refl _, fun j hj => by omega⟩
  rintro a T H2 hi hT ⟨t25, k2, ha⟩
  simp only [fix_nil, fix_cons, Zq, evO, vbox, wr, Zeq, if_true, if_false, Nat.reduceEqDiff, Nat.reduceAdd, Nat.reduceLeDiff, Nat.reduceSub, and_self, and_true, true_and, reduceIte, reduceCtorEq, eq_self, implies_true, forall_const, false_implies, imp_self, decide_true, decide_false] at hT
  obtain ⟨t0, t2, t23, t24⟩ := hT
  have hL2 := hL1.keep k2
  have g2q := hL2.g
  have kk2 := kk.trans (KpP.of k2)
  by_cases hin : a < routes.length
  rotate_left
  · obtain rfl : a = routes.length := by omega
    rw [if_pos (allTo_iff (f := fun a => !(set.getD a false && (rt routes a).2.contains (n : Int))) |>.2 ha)]
    simp (maxSteps := 4000000) (disch := omega) only [Zq, evO, vbox, wr, Zeq, if_true, if_false, Nat.reduceEqDiff, Nat.reduceAdd, Nat.reduceLeDiff, Nat.reduceSub, and_self, and_true, true_and, reduceIte, reduceCtorEq, eq_self, implies_true, forall_const, false_implies, imp_self, decide_true, decide_false, fix_nil, fix_cons, g0, g1, g1q, t0, t2, t23, t24, t25, g2q]
    exact ⟨kk2, hL2⟩
  have has : a < set.length := by omega
  obtain ⟨vn, vb, e3, _, _, hnn, hbb⟩ := route_el ((rSlc rRoute).rdk hr (kB1.trans k2)) hin
  obtain ⟨r1, r2⟩ := rt_tot m3 hin
  have ixs := fun H0 : Heap => slc_idx (r := rBool) (H1 := H0) (sz := 1) (i := a) (k := .i64) rfl ((rSlc rBool).ownrd hL2.o1) has
  have kx : Keep H2 ((H2.push [.slice none 0 0, .slice none 0 0]).set H2.nxt [vn, vb]) := by repeat' (first | exact Keep.refl _ | assumption | refine Keep.push' ?_ | refine Keep.set' ?_ ?_ | refine Keep.moved' ?_ ?_ | omega)
  have hL3 := hL2.keep kx
  have g3q := hL3.g
  have es := bool_el ((rSlc rBool).ownrd hL3.o1) has
  by_cases c3 : set.getD a false = true
  rotate_left
  · have c3' : set.getD a false = false := by simpa using c3
    rw [c3'] at es
    have hqn : q ≠ H2.nxt := by have := hL2.lt; omega
    simp (maxSteps := 4000000) (disch := omega) only [Zq, evO, vbox, wr, Zeq, if_true, if_false, Nat.reduceEqDiff, Nat.reduceAdd, Nat.reduceLeDiff, Nat.reduceSub, and_self, and_true, true_and, reduceIte, reduceCtorEq, eq_self, implies_true, forall_const, false_implies, imp_self, decide_true, decide_false, fix_nil, fix_cons, g0, g1, g1q, t0, t2, t23, t24, t25, g2q, g3q, slc_idx (r := rRoute) (sz := 2) rfl hr hin, e3, ixs, es]
    exact ⟨hin, k2.trans kx, upto_succ (f := fun j => !(set.getD j false && (rt routes j).2.contains (n : Int))) ha (by show (!(_ && _)) = true; rw [c3']; rfl)⟩
  rw [c3] at es
  have hqn : q ≠ H2.nxt := by have := hL2.lt; omega
  simp (maxSteps := 4000000) (disch := omega) only [Zq, evO, vbox, wr, Zeq, if_true, if_false, Nat.reduceEqDiff, Nat.reduceAdd, Nat.reduceLeDiff, Nat.reduceSub, and_self, and_true, true_and, reduceIte, reduceCtorEq, eq_self, implies_true, forall_const, false_implies, imp_self, decide_true, decide_false, fix_nil, fix_cons, g0, g1, g1q, t0, t2, t23, t24, t25, g2q, g3q, slc_idx (r := rRoute) (sz := 2) rfl hr hin, e3, ixs, es]
  generalize (H2.push [.slice none 0 0, .slice none 0 0]).set H2.nxt [vn, vb] = H3 at *
  refine GO_call_eq (by simp (maxSteps := 4000000) (disch := omega) only [Zq, evO, vbox, wr, Zeq, if_true, if_false, Nat.reduceEqDiff, Nat.reduceAdd, Nat.reduceLeDiff, Nat.reduceSub, and_self, and_true, true_and, reduceIte, reduceCtorEq, eq_self, implies_true, forall_const, false_implies, imp_self, decide_true, decide_false, fix_nil, fix_cons, g0, g1, g1q, t0, t2, t23, t24, t25, g2q, g3q]) ((r_impl_has (x := (n : Int)) (ints_of ((rSlc rInt).rdk hbb kx)) (by omega)).mono ?_)
  rintro _ H4 ⟨k4, rfl⟩
  have hL4 := hL3.keep k4
  have g4q := hL4.g
  have kk4 := (kk2.trans (KpP.of kx)).trans (KpP.of k4)
  by_cases c4 : (rt routes a).2.contains (n : Int) = true
  · rw [if_neg (by rw [allTo_bad (f := fun a => !(set.getD a false && (rt routes a).2.contains (n : Int))) hin (by show (!(_ && _)) = false; rw [c3, c4]; rfl)]; simp)]
    obtain ⟨H5, e5, L5, q5, n5, _⟩ := hL4.st2 hnt true
    simp (maxSteps := 4000000) (disch := omega) only [Zq, evO, vbox, wr, Zeq, if_true, if_false, Nat.reduceEqDiff, Nat.reduceAdd, Nat.reduceLeDiff, Nat.reduceSub, and_self, and_true, true_and, reduceIte, reduceCtorEq, eq_self, implies_true, forall_const, false_implies, imp_self, decide_true, decide_false, fix_nil, fix_cons, g0, g1, g1q, t0, t2, t23, t24, t25, g2q, g3q, g4q, c4, ixb, e5]
    exact ⟨kk4.trans q5, L5⟩
  · have c4' : (rt routes a).2.contains (n : Int) = false := by simpa using c4
    simp (maxSteps := 4000000) (disch := omega) only [Zq, evO, vbox, wr, Zeq, if_true, if_false, Nat.reduceEqDiff, Nat.reduceAdd, Nat.reduceLeDiff, Nat.reduceSub, and_self, and_true, true_and, reduceIte, reduceCtorEq, eq_self, implies_true, forall_const, false_implies, imp_self, decide_true, decide_false, fix_nil, fix_cons, g0, g1, g1q, t0, t2, t23, t24, t25, g2q, g3q, g4q, c4']
    exact ⟨hin, k2.trans (kx.trans k4), upto_succ (f := fun j => !(set.getD j false && (rt routes j).2.contains (n : Int))) ha (by show (!(_ && _)) = true; rw [c4']; simp)⟩
end Go.Proofs.Ythjphddodooahaa.AX
