/- Relieve, the program's. No condition beyond each law's own; of the program: the functions' forms. -/
import Derived.Test.YtiajbefljkikiaaRle
namespace Go.Proofs.Ytiajbefljkikiaa.AX
open Go
set_option maxRecDepth 10000
set_option maxHeartbeats 4000000
set_option linter.unusedSimpArgs false
set_option linter.unusedVariables false
theorem vmm_mn {H : Heap} {a b : Int} : vmm H false (.int .i64 a) (.int .i64 b) = some (.int .i64 (min a b), H) := by
  have e : (if a ≤ b then a else b) = min a b := by omega
  simp only [vmm, if_true]
  simp
  try omega
theorem dpT_low {n : Nat} {fine : Nat → Nat → Bool} : ∀ {c k : Nat}, c ≤ n → k < n - c → dpT n fine c k = (0, 0)
  | 0, _, _, _ => rfl
  | c + 1, k, hc, hk => by
    rw [dpT_succ, if_neg (by omega)]
    exact dpT_low (by omega) (by omega)
/-- What is told of a chain, as it lies. -/
def RlV (H H' : Heap) (r : Value) (D : List Int × Bool) : Prop := ∃ u F, r = .tuple #[u, .bool D.2] ∧ (rSlc rInt).own H' [u] D.1 F ∧ Fresh H H' F
theorem rlV_no {H H' : Heap} : RlV H H' (.tuple #[.slice none 0 0, .bool false]) ([], false) := ⟨_, [], rfl, .inl ⟨rfl, rfl, rfl⟩, by simp, by simp⟩
theorem rlR_bad {ts : List Tk} {ds : List Int} {r : Ru} (h : rlOk ts ds r = false) : rlR ts ds r = ([], false) := if_neg fun hh => by rw [hh.1] at h; cases h
theorem min12 {n i : Nat} : min (n : Int) ((i + 12 : Nat) : Int) = ((min n (i + 12) : Nat) : Int) := by omega
section
variable {H : Heap} {v w : Value} {ts : List Tk} {ds : List Int}
theorem r_impl_Relieve {r : Ru} (h : (rSlc rTask).rd H [v] ts) (hd : Ints H w ds) (htl : ts.length ≤ 1048576) (hdl : ds.length ≤ 1048576) : Run Try.prog 53 [v, w, .agg #[.int .i64 r.1, .int .i64 r.2.1, .int .i64 r.2.2.1, .int .i64 r.2.2.2]] H fun x H' => Keep H H' ∧ RlV H H' x (rlR ts ds r) := by
  have lw := fun H1 : Heap => IntsK.len_ (H1 := H1) hd
  refine Run.intro c53 rfl ?_
  simp (maxSteps := 4000000) (disch := omega) only [Zq, evO, vbox, wr, Zeq, if_true, if_false, Nat.reduceEqDiff, Nat.reduceAdd, Nat.reduceLeDiff, Nat.reduceSub, and_self, and_true, true_and, reduceIte, reduceCtorEq, eq_self, implies_true, forall_const, false_implies, imp_self, decide_true, decide_false, x53]
  generalize hG0 : H.push [.int .i64 r.1, .int .i64 r.2.1, .int .i64 r.2.2.1, .int .i64 r.2.2.2] = H0
  have k0 : Keep H H0 := by rw [← hG0]; exact Keep.push _ _
  have g0 : H0.get H.nxt = some (.own [.int .i64 r.1, .int .i64 r.2.1, .int .i64 r.2.2.1, .int .i64 r.2.2.2]) := by rw [← hG0, push_get', if_pos rfl]
  have n0 : H0.nxt = H.nxt + 1 := by rw [← hG0, Zbg]
  refine GO_call ((r_impl_TasksOk ((rSlc rTask).rdk h k0) htl).mono ?_)
  rintro _ H1 ⟨k1, rfl⟩
  have n1 := k1.nxt
  have g1 := (k1.get (H.nxt) (by omega)).trans g0
  have k01 := k0.trans k1
  cases ht : tksB ts with
  | false =>
    simp (maxSteps := 4000000) (disch := omega) only [Zq, evO, vbox, wr, Zeq, if_true, if_false, Nat.reduceEqDiff, Nat.reduceAdd, Nat.reduceLeDiff, Nat.reduceSub, and_self, and_true, true_and, reduceIte, reduceCtorEq, eq_self, implies_true, forall_const, false_implies, imp_self, decide_true, decide_false, fix_nil, fix_cons, g0, g1]
    exact ⟨k01, by rw [rlR_bad (by simp [rlOk, l17B, ht])]; exact rlV_no⟩
  | true =>
  by_cases h40 : (40 : Int) < ds.length
  · simp (maxSteps := 4000000) (disch := omega) only [Zq, evO, vbox, wr, Zeq, if_true, if_false, Nat.reduceEqDiff, Nat.reduceAdd, Nat.reduceLeDiff, Nat.reduceSub, and_self, and_true, true_and, reduceIte, reduceCtorEq, eq_self, implies_true, forall_const, false_implies, imp_self, decide_true, decide_false, fix_nil, fix_cons, g0, g1, lw, Zfh h40]
    exact ⟨k01, by rw [rlR_bad (by simp [rlOk, l17B]; intro; omega)]; exact rlV_no⟩
  have h40' : ds.length ≤ 40 := by omega
  simp (maxSteps := 4000000) (disch := omega) only [Zq, evO, vbox, wr, Zeq, if_true, if_false, Nat.reduceEqDiff, Nat.reduceAdd, Nat.reduceLeDiff, Nat.reduceSub, and_self, and_true, true_and, reduceIte, reduceCtorEq, eq_self, implies_true, forall_const, false_implies, imp_self, decide_true, decide_false, fix_nil, fix_cons, g0, g1, lw, Zfi h40]
  refine GO_call ((r_impl_placesOk ((rSlc rTask).rdk h k01) (IntsK.keep hd k01) htl hdl).mono ?_)
  rintro _ H2 ⟨k2, rfl⟩
  have n2 := k2.nxt
  have g2 := (k2.get (H.nxt) (by omega)).trans g1
  have k02 := k01.trans k2
  cases hp : plB ts.length ds with
  | false =>
    simp (maxSteps := 4000000) (disch := omega) only [Zq, evO, vbox, wr, Zeq, if_true, if_false, Nat.reduceEqDiff, Nat.reduceAdd, Nat.reduceLeDiff, Nat.reduceSub, and_self, and_true, true_and, reduceIte, reduceCtorEq, eq_self, implies_true, forall_const, false_implies, imp_self, decide_true, decide_false, fix_nil, fix_cons, g0, g1, g2]
    exact ⟨k02, by rw [rlR_bad (by simp [rlOk, l17B, hp])]; exact rlV_no⟩
  | true =>
  simp (maxSteps := 4000000) (disch := omega) only [Zq, evO, vbox, wr, Zeq, if_true, if_false, Nat.reduceEqDiff, Nat.reduceAdd, Nat.reduceLeDiff, Nat.reduceSub, and_self, and_true, true_and, reduceIte, reduceCtorEq, eq_self, implies_true, forall_const, false_implies, imp_self, decide_true, decide_false, fix_nil, fix_cons, g0, g1, g2]
  refine GO_call ((r_impl_RuleOk r.1 r.2.1 r.2.2.1 r.2.2.2 _).mono ?_)
  rintro _ H3 ⟨k3, rfl⟩
  have n3 := k3.nxt
  have g3 := (k3.get (H.nxt) (by omega)).trans g2
  have k03 := k02.trans k3
  have er : (r.1, r.2.1, r.2.2.1, r.2.2.2) = r := rfl
  rw [er]
  cases hr : ruB r with
  | false =>
    simp (maxSteps := 4000000) (disch := omega) only [Zq, evO, vbox, wr, Zeq, if_true, if_false, Nat.reduceEqDiff, Nat.reduceAdd, Nat.reduceLeDiff, Nat.reduceSub, and_self, and_true, true_and, reduceIte, reduceCtorEq, eq_self, implies_true, forall_const, false_implies, imp_self, decide_true, decide_false, fix_nil, fix_cons, g0, g1, g2, g3]
    exact ⟨k03, by rw [rlR_bad (by simp [rlOk, hr])]; exact rlV_no⟩
  | true =>
  have hok : rlOk ts ds r = true := by simp [rlOk, l17B, ht, hp, hr, h40']
  obtain ⟨n, hn⟩ : ∃ n, n = ds.length := ⟨_, rfl⟩
  rw [← hn] at h40' lw
  obtain ⟨fine, hfine⟩ : ∃ fine, fine = fineB ts ds r := ⟨_, rfl⟩
  have hRl : rlR ts ds r = if 0 ≤ (dpT n fine n 0).1 then (dpL n fine n 0, true) else ([], false) := by
    unfold rlR
    rw [hok, ← hn, ← hfine]
    simp
  rw [hRl]
  have hw1 : IntKind.i64.wrap ((n : Int) + 1) = ((n + 1 : Nat) : Int) := by rw [wrap64 (by omega) (by omega)]; omega
  have hw2 : IntKind.i64.wrap ((n : Int) - 1) = (n : Int) - 1 := wrap64 (by omega) (by omega)
  simp (maxSteps := 4000000) (disch := omega) only [Zq, evO, vbox, wr, Zeq, if_true, if_false, Nat.reduceEqDiff, Nat.reduceAdd, Nat.reduceLeDiff, Nat.reduceSub, and_self, and_true, true_and, reduceIte, reduceCtorEq, eq_self, implies_true, forall_const, false_implies, imp_self, decide_true, decide_false, fix_nil, fix_cons, g0, g1, g2, g3, lw]
  refine G_tame rfl ?_
  simp (maxSteps := 4000000) (disch := omega) only [Zq, evO, vbox, wr, Zeq, if_true, if_false, Nat.reduceEqDiff, Nat.reduceAdd, Nat.reduceLeDiff, Nat.reduceSub, and_self, and_true, true_and, reduceIte, reduceCtorEq, eq_self, implies_true, forall_const, false_implies, imp_self, decide_true, decide_false, fix_nil, fix_cons, g0, g1, g2, g3, hw1, hw2]
  generalize hG4 : (H3.push (List.replicate (n + 1) [Value.int .i64 0]).flatten).push (List.replicate n [Value.int .i64 0]).flatten = H4
  have k4 : Keep H3 H4 := by rw [← hG4]; exact (Keep.push _ _).trans (Keep.push _ _)
  obtain ⟨a, ha⟩ : ∃ a, a = H3.nxt := ⟨_, rfl⟩
  have hz : ∀ N : Nat, (List.replicate N [Value.int .i64 0]).flatten = (tabL (fun _ => 0) N).map (Value.int .i64) := fun N => by rw [tabL_zero]; simp
  have A4 : Arr H4 a (tabL (fun k => (dpT n fine 0 k).1) (n + 1)) := by
    rw [← hG4, ha]
    exact ⟨by rw [Zbg, Zbg]; omega, by rw [push_get', Zbg, if_neg (by omega), push_get', if_pos rfl, hz]; rfl⟩
  have B4 : Arr H4 (a + 1) (tabL (fun k => (dpT n fine 0 k).2) n) := by
    rw [← hG4, ha]
    exact ⟨by rw [Zbg, Zbg]; omega, by rw [push_get', Zbg, if_pos rfl, hz]; rfl⟩
  have n4 : H4.nxt = a + 2 := by rw [← hG4, ha, Zbg, Zbg]
  clear hG4 hz
  obtain ⟨va, hva⟩ : ∃ va, va = Value.slice (some ⟨a, 0, none⟩) (n + 1) 1 := ⟨_, rfl⟩
  obtain ⟨vb, hvb⟩ : ∃ vb, vb = Value.slice (some ⟨a + 1, 0, none⟩) n 1 := ⟨_, rfl⟩
  rw [← ha, ← hva, ← hvb]
  have hbd := @dpT_bd n fine
  refine G_loopF [0, 1, 5, 8, 9, 10] (n) (fun q T H6 => T 11 = .int .i64 ((q : Int) - 1) ∧ q ≤ n ∧ Keep H3 H6 ∧ Arr H6 a (tabL (fun k => (dpT n fine (n - q) k).1) (n + 1)) ∧ Arr H6 (a + 1) (tabL (fun k => (dpT n fine (n - q) k).2) n)) ?_ ?_
  · simp (maxSteps := 4000000) (disch := omega) only [Zq, evO, vbox, wr, Zeq, if_true, if_false, Nat.reduceEqDiff, Nat.reduceAdd, Nat.reduceLeDiff, Nat.reduceSub, and_self, and_true, true_and, reduceIte, reduceCtorEq, eq_self, implies_true, forall_const, false_implies, imp_self, decide_true, decide_false, fix_nil, fix_cons, g0, g1, g2, g3]
    exact ⟨k4, by rw [Nat.sub_self]; exact A4, by rw [Nat.sub_self]; exact B4⟩
  rintro q T H6 hT ⟨t11, hq, k6, A6, B6⟩
  simp only [fix_nil, fix_cons, Zq, evO, vbox, wr, Zeq, if_true, if_false, Nat.reduceEqDiff, Nat.reduceAdd, Nat.reduceLeDiff, Nat.reduceSub, and_self, and_true, true_and, reduceIte, reduceCtorEq, eq_self, implies_true, forall_const, false_implies, imp_self, decide_true, decide_false] at hT
  obtain ⟨t0, t1, t5, t8, t9, t10⟩ := hT
  have g6 := (k6.get H.nxt (by have := k3.nxt; omega)).trans g3
  by_cases hq0 : 0 < q
  · obtain ⟨i, rfl⟩ : ∃ i, q = i + 1 := ⟨q - 1, by omega⟩
    obtain ⟨c, hc⟩ : ∃ c, c = n - (i + 1) := ⟨_, rfl⟩
    have hci : n - 1 - c = i := by omega
    rw [← hc] at A6 B6
    rw [show (((i + 1 : Nat) : Int) - 1) = (i : Int) by omega] at t11
    have J6 := A6.ints (tabL_len _ _) hva
    have iA := fun H0 : Heap => IntsK.idx (k' := .i64) (H1 := H0) (i := i) J6 (by rw [tabL_len]; omega)
    have e6 := A6.st (y := -1) (tabL_len _ _) hva (by omega : i < n + 1)
    have hwi : IntKind.i64.wrap ((i : Int) + 1) = ((i + 1 : Nat) : Int) := by rw [wrap64 (by omega) (by omega)]; omega
    have hw12 : IntKind.i64.wrap ((i : Int) + 12) = ((i + 12 : Nat) : Int) := by rw [wrap64 (by omega) (by omega)]; omega
    simp (maxSteps := 4000000) (disch := omega) only [Zq, evO, vbox, wr, Zeq, if_true, if_false, Nat.reduceEqDiff, Nat.reduceAdd, Nat.reduceLeDiff, Nat.reduceSub, and_self, and_true, true_and, reduceIte, reduceCtorEq, eq_self, implies_true, forall_const, false_implies, imp_self, decide_true, decide_false, fix_nil, fix_cons, g0, g1, g2, g3, t0, t1, t5, t8, t9, t10, t11, g6, Zfj (by omega : (0 : Int) ≤ (i : Int)), iA, e6, hwi]
    have A7 := A6.set (ys := (tabL (fun k => (dpT n fine c k).1) (n + 1)).set i (-1))
    have B7 := B6.other (a := a) (cs := ((tabL (fun k => (dpT n fine c k).1) (n + 1)).set i (-1)).map (Value.int .i64)) (by omega)
    have k7 : Keep H3 (H6.set a (((tabL (fun k => (dpT n fine c k).1) (n + 1)).set i (-1)).map (Value.int .i64))) := k6.set' (by omega)
    generalize H6.set a (((tabL (fun k => (dpT n fine c k).1) (n + 1)).set i (-1)).map (Value.int .i64)) = H7 at A7 B7 k7 ⊢
    rw [tabL_set] at A7
    obtain ⟨Fc, hFc⟩ : ∃ Fc : Nat → Int, Fc = fun j => (dpT n fine c j).1 := ⟨_, rfl⟩
    refine G_forF [0, 1, 5, 8, 9, 10, 11] ((dpM n i)) (fun m T H8 => T 12 = .int .i64 ((i + 1 + m : Nat) : Int) ∧ Keep H3 H8 ∧ Arr H8 a (tabL (fun k => if k = i then (dpI fine Fc i m).1 else (dpT n fine c k).1) (n + 1)) ∧ Arr H8 (a + 1) (tabL (fun k => if k = i then (dpI fine Fc i m).2 else (dpT n fine c k).2) n)) 0 (Nat.zero_le _) ?_ ?_
    · simp (maxSteps := 4000000) (disch := omega) only [Zq, evO, vbox, wr, Zeq, if_true, if_false, Nat.reduceEqDiff, Nat.reduceAdd, Nat.reduceLeDiff, Nat.reduceSub, and_self, and_true, true_and, reduceIte, reduceCtorEq, eq_self, implies_true, forall_const, false_implies, imp_self, decide_true, decide_false, fix_nil, fix_cons, g0, g1, g2, g3, t0, t1, t5, t8, t9, t10, t11, g6]
      refine ⟨k7, A7, ?_⟩
      rw [tabL_congr (g := fun k => (dpT n fine c k).2) (fun k _ => by
        by_cases e : k = i
        · rw [if_pos e, e, dpT_low (by omega) (by omega)]; rfl
        · rw [if_neg e])]
      exact B7
    rintro m T H8 hm hT ⟨t12, k8, A8, B8⟩
    simp only [fix_nil, fix_cons, Zq, evO, vbox, wr, Zeq, if_true, if_false, Nat.reduceEqDiff, Nat.reduceAdd, Nat.reduceLeDiff, Nat.reduceSub, and_self, and_true, true_and, reduceIte, reduceCtorEq, eq_self, implies_true, forall_const, false_implies, imp_self, decide_true, decide_false, t0, t1, t5, t8, t9, t10, t11] at hT
    obtain ⟨t0, t1, t5, t8, t9, t10, t11⟩ := hT
    have g8 := (k8.get H.nxt (by have := k3.nxt; omega)).trans g3
    have hMd : dpM n i = min n (i + 12) - i := rfl
    by_cases hmM : m < dpM n i
    · obtain ⟨j, hj⟩ : ∃ j, j = i + 1 + m := ⟨_, rfl⟩
      rw [← hj] at t12
      have hjn : j ≤ n := by omega
      have hj12 : j ≤ i + 12 := by omega
      have J8 := A8.ints (tabL_len _ _) hva
      have K8 := B8.ints (tabL_len _ _) hvb
      have iAj := fun H0 : Heap => IntsK.idx (k' := .i64) (H1 := H0) (i := j) J8 (by rw [tabL_len]; omega)
      have iAi := fun H0 : Heap => IntsK.idx (k' := .i64) (H1 := H0) (i := i) J8 (by rw [tabL_len]; omega)
      have iBi := fun H0 : Heap => IntsK.idx (k' := .i64) (H1 := H0) (i := i) K8 (by rw [tabL_len]; omega)
      have lAj := IntsK.ld J8 (i := j) (by rw [tabL_len]; omega)
      have lAi := IntsK.ld J8 (i := i) (by rw [tabL_len]; omega)
      rw [tabL_get (by omega), if_neg (by omega)] at lAj
      rw [tabL_get (by omega), if_pos rfl] at lAi
      have bj := hbd (c := c) (by omega) j hjn
      have bi := dpI_bd (fine := fine) (F := Fc) (i := i) (n := n) (fun x h1 h2 => by rw [hFc]; exact hbd (c := c) (by omega) x h2) (m := m) (by omega)
      have eF : Fc j = (dpT n fine c j).1 := by rw [hFc]
      have edp : dpI fine Fc i (m + 1) = dpS fine Fc i (dpI fine Fc i m) j := by rw [dpI, hj]
      have hwj : IntKind.i64.wrap ((j : Int) + 1) = ((i + 1 + (m + 1) : Nat) : Int) := by rw [wrap64 (by omega) (by omega)]; omega
      have hwf : IntKind.i64.wrap ((dpT n fine c j).1 + 1) = (dpT n fine c j).1 + 1 := wrap64 (by omega) (by omega)
      have hle : (j : Int) ≤ ((min n (i + 12) : Nat) : Int) := by omega
      have stay : dpI fine Fc i (m + 1) = dpI fine Fc i m → ∀ {H' : Heap}, Keep H8 H' → Keep H3 H' ∧ Arr H' a (tabL (fun k => if k = i then (dpI fine Fc i (m + 1)).1 else (dpT n fine c k).1) (n + 1)) ∧ Arr H' (a + 1) (tabL (fun k => if k = i then (dpI fine Fc i (m + 1)).2 else (dpT n fine c k).2) n) := fun e H' kk => by
        rw [e]; exact ⟨k8.trans kk, A8.keep kk, B8.keep kk⟩
      simp (maxSteps := 4000000) (disch := omega) only [Zq, evO, vbox, wr, Zeq, if_true, if_false, Nat.reduceEqDiff, Nat.reduceAdd, Nat.reduceLeDiff, Nat.reduceSub, and_self, and_true, true_and, reduceIte, reduceCtorEq, eq_self, implies_true, forall_const, false_implies, imp_self, decide_true, decide_false, fix_nil, fix_cons, g0, g1, g2, g3, t0, t1, t5, t8, t9, t10, t11, g6, t12, g8, hw12, vmm_mn, min12, Zfj hle]
      refine G_tame rfl ?_
      by_cases hF0 : (dpT n fine c j).1 < 0
      · simp (maxSteps := 4000000) (disch := omega) only [Zq, evO, vbox, wr, Zeq, if_true, if_false, Nat.reduceEqDiff, Nat.reduceAdd, Nat.reduceLeDiff, Nat.reduceSub, and_self, and_true, true_and, reduceIte, reduceCtorEq, eq_self, implies_true, forall_const, false_implies, imp_self, decide_true, decide_false, fix_nil, fix_cons, g0, g1, g2, g3, t0, t1, t5, t8, t9, t10, t11, g6, t12, g8, iAj, lAj, Zfh hF0, hwj]
        exact ⟨hmM, stay (by rw [edp, dpS, if_neg (fun hh => by rw [eF] at hh; omega)]) (Keep.refl _)⟩
      have V := sub_Vd (i := i) (j := j) ht hp (by omega) (by omega) hj12
      have sub := fun H0 : Heap => Sl.slc_both (H1 := H0) (k := .i64) (k' := .i64) (a := i) (b := j) hd (by omega) (by omega)
      have hs := IntsK.sub (IntsK.keep hd (k03.trans k8)) (a := i) (b := j) (by omega) (by omega)
      simp (maxSteps := 4000000) (disch := omega) only [Zq, evO, vbox, wr, Zeq, if_true, if_false, Nat.reduceEqDiff, Nat.reduceAdd, Nat.reduceLeDiff, Nat.reduceSub, and_self, and_true, true_and, reduceIte, reduceCtorEq, eq_self, implies_true, forall_const, false_implies, imp_self, decide_true, decide_false, fix_nil, fix_cons, g0, g1, g2, g3, t0, t1, t5, t8, t9, t10, t11, g6, t12, g8, iAj, lAj, Zfi hF0, sub]
      refine GO_call ((r_impl_dutyCode (ds := subL ds i j) (r := r) V ((rSlc rTask).rdk h (k03.trans k8)) hs).mono ?_)
      rintro _ H9 ⟨k9, rfl⟩
      have n9 := k9.nxt
      have A9 := A8.keep k9
      have B9 := B8.keep k9
      have hfe : fine i j = decide (dcR ts (subL ds i j) r = 0) := by rw [hfine, fineB, if_pos (l17D_iff.2 V)]
      by_cases hdc : dcR ts (subL ds i j) r = 0
      rotate_left
      · simp (maxSteps := 4000000) (disch := omega) only [Zq, evO, vbox, wr, Zeq, if_true, if_false, Nat.reduceEqDiff, Nat.reduceAdd, Nat.reduceLeDiff, Nat.reduceSub, and_self, and_true, true_and, reduceIte, reduceCtorEq, eq_self, implies_true, forall_const, false_implies, imp_self, decide_true, decide_false, fix_nil, fix_cons, g0, g1, g2, g3, t0, t1, t5, t8, t9, t10, t11, g6, t12, g8, Zfm hdc, hwj]
        exact ⟨hmM, stay (by rw [edp, dpS, if_neg (fun hh => by rw [hfe] at hh; simp [hdc] at hh)]) k9⟩
      have hft : fine i j = true := by rw [hfe]; exact decide_eq_true hdc
      simp (maxSteps := 4000000) (disch := omega) only [Zq, evO, vbox, wr, Zeq, if_true, if_false, Nat.reduceEqDiff, Nat.reduceAdd, Nat.reduceLeDiff, Nat.reduceSub, and_self, and_true, true_and, reduceIte, reduceCtorEq, eq_self, implies_true, forall_const, false_implies, imp_self, decide_true, decide_false, fix_nil, fix_cons, g0, g1, g2, g3, t0, t1, t5, t8, t9, t10, t11, g6, t12, g8, Zfl hdc]
      have lAj9 := (A9.ints (tabL_len _ _) hva).ld (i := j) (by rw [tabL_len]; omega)
      have lAi9 := (A9.ints (tabL_len _ _) hva).ld (i := i) (by rw [tabL_len]; omega)
      rw [tabL_get (by omega), if_neg (by omega)] at lAj9
      rw [tabL_get (by omega), if_pos rfl] at lAi9
      refine G_calm rfl ?_
      have eA := A9.st (y := (dpT n fine c j).1 + 1) (tabL_len _ _) hva (by omega : i < n + 1)
      have AA := A9.set (ys := (tabL (fun k => if k = i then (dpI fine Fc i m).1 else (dpT n fine c k).1) (n + 1)).set i ((dpT n fine c j).1 + 1))
      have BA := B9.other (a := a) (cs := ((tabL (fun k => if k = i then (dpI fine Fc i m).1 else (dpT n fine c k).1) (n + 1)).set i ((dpT n fine c j).1 + 1)).map (Value.int .i64)) (by omega)
      have kA : Keep H3 (H9.set a (((tabL (fun k => if k = i then (dpI fine Fc i m).1 else (dpT n fine c k).1) (n + 1)).set i ((dpT n fine c j).1 + 1)).map (Value.int .i64))) := (k8.trans k9).set' (by omega)
      obtain ⟨HA, hHA⟩ : ∃ HA, HA = H9.set a (((tabL (fun k => if k = i then (dpI fine Fc i m).1 else (dpT n fine c k).1) (n + 1)).set i ((dpT n fine c j).1 + 1)).map (Value.int .i64)) := ⟨_, rfl⟩
      rw [← hHA] at eA AA BA kA
      have eB := BA.st (y := (j : Int)) (tabL_len _ _) hvb (by omega : i < n)
      have BB := BA.set (ys := (tabL (fun k => if k = i then (dpI fine Fc i m).2 else (dpT n fine c k).2) n).set i (j : Int))
      have AB := AA.other (a := a + 1) (cs := ((tabL (fun k => if k = i then (dpI fine Fc i m).2 else (dpT n fine c k).2) n).set i (j : Int)).map (Value.int .i64)) (by omega)
      have kB := kA.set' (i := a + 1) (cs := ((tabL (fun k => if k = i then (dpI fine Fc i m).2 else (dpT n fine c k).2) n).set i (j : Int)).map (Value.int .i64)) (by omega)
      clear hHA
      obtain ⟨HB, hHB⟩ : ∃ HB, HB = HA.set (a + 1) (((tabL (fun k => if k = i then (dpI fine Fc i m).2 else (dpT n fine c k).2) n).set i (j : Int)).map (Value.int .i64)) := ⟨_, rfl⟩
      rw [← hHB] at eB BB AB kB
      clear hHB
      rw [tabL_set] at AB BB
      have upd : dpI fine Fc i (m + 1) = ((dpT n fine c j).1 + 1, (j : Int)) → Arr HB a (tabL (fun k => if k = i then (dpI fine Fc i (m + 1)).1 else (dpT n fine c k).1) (n + 1)) ∧ Arr HB (a + 1) (tabL (fun k => if k = i then (dpI fine Fc i (m + 1)).2 else (dpT n fine c k).2) n) := fun e => by
        rw [e]
        refine ⟨?_, ?_⟩
        · rw [tabL_congr (g := fun k => if k = i then (dpT n fine c j).1 + 1 else if k = i then (dpI fine Fc i m).1 else (dpT n fine c k).1) (fun k _ => by
            by_cases e : k = i
            · simp only [e, if_true]
            · simp only [if_neg e])]
          exact AB
        · rw [tabL_congr (g := fun k => if k = i then (j : Int) else if k = i then (dpI fine Fc i m).2 else (dpT n fine c k).2) (fun k _ => by
            by_cases e : k = i
            · simp only [e, if_true]
            · simp only [if_neg e])]
          exact BB
      by_cases hb0 : (dpI fine Fc i m).1 < 0
      · have eu : dpI fine Fc i (m + 1) = ((dpT n fine c j).1 + 1, (j : Int)) := by rw [edp, dpS, if_pos ⟨by rw [eF]; omega, hft, .inl hb0⟩, eF]
        simp (maxSteps := 4000000) (disch := omega) only [Zq, evO, vbox, wr, Zeq, if_true, if_false, Nat.reduceEqDiff, Nat.reduceAdd, Nat.reduceLeDiff, Nat.reduceSub, and_self, and_true, true_and, reduceIte, reduceCtorEq, eq_self, implies_true, forall_const, false_implies, imp_self, decide_true, decide_false, fix_nil, fix_cons, g0, g1, g2, g3, t0, t1, t5, t8, t9, t10, t11, g6, t12, g8, iAi, lAi9, Zfh hb0, iAj, lAj9, hwf, eA, iBi, eB, hwj]
        exact ⟨hmM, kB, upd eu⟩
      by_cases hb1 : (dpT n fine c j).1 + 1 < (dpI fine Fc i m).1
      · have eu : dpI fine Fc i (m + 1) = ((dpT n fine c j).1 + 1, (j : Int)) := by rw [edp, dpS, if_pos ⟨by rw [eF]; omega, hft, .inr (by rw [eF]; exact hb1)⟩, eF]
        simp (maxSteps := 4000000) (disch := omega) only [Zq, evO, vbox, wr, Zeq, if_true, if_false, Nat.reduceEqDiff, Nat.reduceAdd, Nat.reduceLeDiff, Nat.reduceSub, and_self, and_true, true_and, reduceIte, reduceCtorEq, eq_self, implies_true, forall_const, false_implies, imp_self, decide_true, decide_false, fix_nil, fix_cons, g0, g1, g2, g3, t0, t1, t5, t8, t9, t10, t11, g6, t12, g8, iAi, lAi9, Zfi hb0, iAj, lAj9, hwf, Zfh hb1, eA, iBi, eB, hwj]
        exact ⟨hmM, kB, upd eu⟩
      · simp (maxSteps := 4000000) (disch := omega) only [Zq, evO, vbox, wr, Zeq, if_true, if_false, Nat.reduceEqDiff, Nat.reduceAdd, Nat.reduceLeDiff, Nat.reduceSub, and_self, and_true, true_and, reduceIte, reduceCtorEq, eq_self, implies_true, forall_const, false_implies, imp_self, decide_true, decide_false, fix_nil, fix_cons, g0, g1, g2, g3, t0, t1, t5, t8, t9, t10, t11, g6, t12, g8, iAi, lAi9, Zfi hb0, iAj, lAj9, hwf, Zfi hb1, hwj]
        exact ⟨hmM, stay (by rw [edp, dpS, if_neg (fun hh => by rw [eF] at hh; rcases hh.2.2 with q1 | q1; exact hb0 q1; exact hb1 q1)]) k9⟩
    · obtain rfl : m = dpM n i := by omega
      have hgt : ¬ ((i + 1 + dpM n i : Nat) : Int) ≤ ((min n (i + 12) : Nat) : Int) := by omega
      have hwd : IntKind.i64.wrap ((i : Int) - 1) = (i : Int) - 1 := wrap64 (by omega) (by omega)
      have ec : n - i = c + 1 := by omega
      simp (maxSteps := 4000000) (disch := omega) only [Zq, evO, vbox, wr, Zeq, if_true, if_false, Nat.reduceEqDiff, Nat.reduceAdd, Nat.reduceLeDiff, Nat.reduceSub, and_self, and_true, true_and, reduceIte, reduceCtorEq, eq_self, implies_true, forall_const, false_implies, imp_self, decide_true, decide_false, fix_nil, fix_cons, g0, g1, g2, g3, t0, t1, t5, t8, t9, t10, t11, g6, t12, g8, hw12, vmm_mn, min12, Zfk hgt, hwd]
      refine ⟨i, by omega, rfl, by omega, k8, ?_, ?_⟩
      · rw [ec]
        refine (tabL_congr (fun k _ => ?_) : tabL _ (n + 1) = _) ▸ A8
        rw [dpT_succ, hci]
        by_cases e : k = i
        · rw [if_pos e, if_pos e, hFc]
        · rw [if_neg e, if_neg e]
      · rw [ec]
        refine (tabL_congr (fun k _ => ?_) : tabL _ n = _) ▸ B8
        rw [dpT_succ, hci]
        by_cases e : k = i
        · rw [if_pos e, if_pos e, hFc]
        · rw [if_neg e, if_neg e]
  obtain rfl : q = 0 := by omega
  rw [Nat.sub_zero] at A6 B6
  have J6 := A6.ints (tabL_len _ _) hva
  have iA : ∀ H0 : Heap, vidx H0 1 va (.int .i64 0) = some (adr va 0 1 0, H0) := fun H0 => IntsK.idx (k' := .i64) (H1 := H0) (i := 0) J6 (by rw [tabL_len]; omega)
  have lA := IntsK.ld J6 (i := 0) (by rw [tabL_len]; omega)
  rw [tabL_get (by omega)] at lA
  by_cases hn0 : (dpT n fine n 0).1 < 0
  · simp (maxSteps := 4000000) (disch := omega) only [Zq, evO, vbox, wr, Zeq, if_true, if_false, Nat.reduceEqDiff, Nat.reduceAdd, Nat.reduceLeDiff, Nat.reduceSub, and_self, and_true, true_and, reduceIte, reduceCtorEq, eq_self, implies_true, forall_const, false_implies, imp_self, decide_true, decide_false, fix_nil, fix_cons, g0, g1, g2, g3, t0, t1, t5, t8, t9, t10, t11, g6, Zfk (by omega : ¬ (0 : Int) ≤ ((0 : Nat) : Int) - 1), iA, lA, Zfh hn0]
    exact ⟨k03.trans k6, by rw [if_neg (by omega)]; exact rlV_no⟩
  have hn0' : 0 ≤ (dpT n fine n 0).1 := by omega
  rw [if_pos hn0']
  simp (maxSteps := 4000000) (disch := omega) only [Zq, evO, vbox, wr, Zeq, if_true, if_false, Nat.reduceEqDiff, Nat.reduceAdd, Nat.reduceLeDiff, Nat.reduceSub, and_self, and_true, true_and, reduceIte, reduceCtorEq, eq_self, implies_true, forall_const, false_implies, imp_self, decide_true, decide_false, fix_nil, fix_cons, g0, g1, g2, g3, t0, t1, t5, t8, t9, t10, t11, g6, Zfk (by omega : ¬ (0 : Int) ≤ ((0 : Nat) : Int) - 1), iA, lA, Zfi hn0]
  have o7 : NewF (fZ .i64) 1 H6 (H6.push []) (.slice (some ⟨H6.nxt, 0, none⟩) 0 1) [] := NewF.new (Keep.refl _)
  generalize hG7 : H6.push [] = H7 at o7 ⊢
  have k7 : Keep H6 H7 := by rw [← hG7]; exact Keep.push _ _
  clear hG7
  refine G_loopF [8, 10] (n) (fun z T H8 => ∃ (i f : Nat) (u : Value) (S : List Int), T 14 = .int .i64 (i : Int) ∧ z = n - i ∧ i ≤ n ∧ T 13 = u ∧ Keep H6 H8 ∧ NewF (fZ .i64) 1 H6 H8 u S ∧ S ++ dpL n fine f i = dpL n fine n 0 ∧ n - i ≤ f ∧ 0 ≤ (dpT n fine n i).1 ∧ S.length ≤ i) ?_ ?_
  · simp (maxSteps := 4000000) (disch := omega) only [Zq, evO, vbox, wr, Zeq, if_true, if_false, Nat.reduceEqDiff, Nat.reduceAdd, Nat.reduceLeDiff, Nat.reduceSub, and_self, and_true, true_and, reduceIte, reduceCtorEq, eq_self, implies_true, forall_const, false_implies, imp_self, decide_true, decide_false, fix_nil, fix_cons, g0, g1, g2, g3, t0, t1, t5, t8, t9, t10, t11, g6]
    exact ⟨0, n, _, [], rfl, by omega, by omega, rfl, k7, o7, rfl, by omega, hn0', by simp⟩
  rintro z T H8 hT ⟨i, f, u, S, t14, hz, hin, t13, k8, o8, hS, hf, hpos, hSl⟩
  simp only [fix_nil, fix_cons, Zq, evO, vbox, wr, Zeq, if_true, if_false, Nat.reduceEqDiff, Nat.reduceAdd, Nat.reduceLeDiff, Nat.reduceSub, and_self, and_true, true_and, reduceIte, reduceCtorEq, eq_self, implies_true, forall_const, false_implies, imp_self, decide_true, decide_false, t0, t1, t5, t8, t9, t10, t11] at hT
  obtain ⟨t8, t10⟩ := hT
  by_cases hi : i < n
  · obtain ⟨x, x1, x2, x3, _, _, x5, _, _⟩ := dp_next hi hpos
    obtain ⟨gq, hgq, eL⟩ := dpL_step hi hf x1 x2
    obtain ⟨u9, H9, e9, o9, kk9, n9⟩ := NewF.one (bytes := 8) (y := (i : Int)) (fZ_len .i64) (by omega) o8 (by omega)
    have k9 := kk9 H6 (Nat.le_refl _) k8
    simp only [fZ] at e9
    have K9 := (B6.keep k9).ints (tabL_len _ _) hvb
    have iB := fun H0 : Heap => IntsK.idx (k' := .i64) (H1 := H0) (i := i) K9 (by rw [tabL_len]; omega)
    have lB := IntsK.ld K9 (i := i) (by rw [tabL_len]; omega)
    rw [tabL_get hi, x1] at lB
    simp (maxSteps := 4000000) (disch := omega) only [Zq, evO, vbox, wr, Zeq, if_true, if_false, Nat.reduceEqDiff, Nat.reduceAdd, Nat.reduceLeDiff, Nat.reduceSub, and_self, and_true, true_and, reduceIte, reduceCtorEq, eq_self, implies_true, forall_const, false_implies, imp_self, decide_true, decide_false, fix_nil, fix_cons, g0, g1, g2, g3, t0, t1, t5, t8, t9, t10, t11, g6, t14, t13, Zfh (by omega : (i : Int) < (n : Int)), Zff, e9, iB, lB]
    exact ⟨n - x, by omega, x, gq, u9, _, rfl, rfl, by omega, rfl, k9, o9, by rw [List.append_assoc, ← hS, eL]; rfl, hgq, x5, by rw [List.length_append]; simp only [List.length_singleton]; omega⟩
  · obtain rfl : i = n := by omega
    rw [dpL_end, List.append_nil] at hS
    have hvn := Sl.noTup_ (o8.sl (fZ_len .i64))
    simp (maxSteps := 4000000) (disch := omega) only [Zq, evO, vbox, wr, Zeq, if_true, if_false, Nat.reduceEqDiff, Nat.reduceAdd, Nat.reduceLeDiff, Nat.reduceSub, and_self, and_true, true_and, reduceIte, reduceCtorEq, eq_self, implies_true, forall_const, false_implies, imp_self, decide_true, decide_false, fix_nil, fix_cons, g0, g1, g2, g3, t0, t1, t5, t8, t9, t10, t11, g6, t14, t13, Zfi (by omega : ¬ (i : Int) < (i : Int)), hvn]
    have o8' := o8.base (H0 := H) (by have := k03.nxt; have := k6.nxt; omega)
    rw [hS] at o8'
    obtain ⟨F, oF, fF⟩ := o8'.ownI
    exact ⟨k03.trans (k6.trans k8), u, F, rfl, oF, fF⟩
end
end Go.Proofs.Ytiajbefljkikiaa.AX
