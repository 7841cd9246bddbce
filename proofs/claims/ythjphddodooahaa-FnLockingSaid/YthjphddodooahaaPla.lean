/- Plants: when their routes are right. No condition beyond each law's own; of the program: the functions' forms. -/
import Derived.Test.YthjphddodooahaaRpl
import Derived.Test.YthjphddodooahaaBas
namespace Go.Proofs.Ythjphddodooahaa.AX
open Go
set_option maxRecDepth 10000
set_option maxHeartbeats 4000000
set_option linter.unusedSimpArgs false
set_option linter.unusedVariables false
abbrev Nd := Int × Int
abbrev Rt := List Nd × List Int
def allTo (n : Nat) (f : Nat → Bool) : Bool := (List.range n).all f
theorem allTo_iff {n : Nat} {f : Nat → Bool} : allTo n f = true ↔ ∀ i, i < n → f i = true := by
  simp [allTo]
theorem allTo_bad {n i : Nat} {f : Nat → Bool} (h : i < n) (hf : f i = false) : allTo n f = false := by
  rw [← Bool.not_eq_true, allTo_iff]
  intro hh
  rw [hh i h] at hf
  cases hf
theorem upto_succ {i : Nat} {f : Nat → Bool} (h : ∀ j, j < i → f j = true) (hf : f i = true) : ∀ j, j < i + 1 → f j = true := fun j hj => by
  rcases Nat.lt_or_ge j i with h1 | h1
  · exact h j h1
  · obtain rfl : j = i := by omega
    exact hf
def nd (l : List Nd) (i : Nat) : Nd := l.getD i (0, 0)
def ndOk (n : Nat) (l : List Nd) (i : Nat) : Bool := inR 0 ((n : Int) - 1) (nd l i).1 && (inR 0 1 (nd l i).2 && !(decide (0 < i) && decide ((nd l i).1 ≤ (nd l (i - 1)).1)))
def bkOk (b : Int) (l : List Int) (i : Nat) : Bool := inR 0 (b - 1) (l.getD i 0) && !((l.take i).contains (l.getD i 0))
def rtOk (n : Nat) (b : Int) (r : Rt) : Bool := allTo r.1.length (ndOk n r.1) && (decide (1 ≤ r.2.length) && allTo r.2.length (bkOk b r.2))
theorem wrap_pred {i : Nat} (h0 : 0 < i) (h : i < 4611686018427387904) : IntKind.i64.wrap ((i : Int) - 1) = ((i - 1 : Nat) : Int) := by rw [wrap64 (by omega) (by omega)]; omega
theorem need_el {H : Heap} {v : Value} {l : List Nd} {i : Nat} (h : (rSlc rNeed).rd H [v] l) (hi : i < l.length) : vldN H 2 (adr v i 2 0) = some (.agg #[.int .i64 (nd l i).1, .int .i64 (nd l i).2], H) ∧ vld1 H (adr v i 2 0) = some (.int .i64 (nd l i).1, H) ∧ vld1 H (adr v i 2 1) = some (.int .i64 (nd l i).2, H) := by
  obtain ⟨row, h1, _, h2, h3⟩ := slc_el (sz := 2) rfl (by omega) h hi
  have e : row = [.int .i64 l[i].1, .int .i64 l[i].2] := h1
  subst e
  rw [nd, getD_get _ _ hi]
  exact ⟨h2, h3 0 _ rfl, h3 1 _ rfl⟩
def rt (l : List Rt) (i : Nat) : Rt := l.getD i ([], [])
theorem route_el {H : Heap} {v : Value} {l : List Rt} {i : Nat} (h : (rSlc rRoute).rd H [v] l) (hi : i < l.length) : ∃ vn vb, vldN H 2 (adr v i 2 0) = some (.agg #[vn, vb], H) ∧ vld1 H (adr v i 2 0) = some (vn, H) ∧ vld1 H (adr v i 2 1) = some (vb, H) ∧ (rSlc rNeed).rd H [vn] (rt l i).1 ∧ (rSlc rInt).rd H [vb] (rt l i).2 := by
  obtain ⟨row, h1, _, h2, h3⟩ := slc_el (sz := 2) rfl (by omega) h hi
  obtain ⟨vn, vb, rfl, hn, hb⟩ := route_rd (x0 := l[i].1) (x1 := l[i].2) h1
  rw [rt, getD_get _ _ hi]
  exact ⟨vn, vb, h2, h3 0 _ rfl, h3 1 _ rfl, hn, hb⟩
section
variable {H : Heap} {vu vr vn vb : Value} {under : List Int} {b : Int} {r : Rt}
theorem pigeon : ∀ (B : Nat) (l : List Int), l.Nodup → (∀ x ∈ l, 0 ≤ x ∧ x < (B : Int)) → l.length ≤ B
  | 0, l, _, h => by
    cases l with
    | nil => simp
    | cons x l => have := h x (by simp); omega
  | B + 1, l, hn, h => by
    have h1 := pigeon B (l.erase (B : Int)) (hn.erase _) (fun x hx => by
      have h2 := (hn.mem_erase_iff).1 hx
      have := h x h2.2
      have := h2.1
      omega)
    by_cases hm : (B : Int) ∈ l
    · rw [List.length_erase_of_mem hm] at h1; omega
    · rw [List.erase_of_not_mem hm] at h1; omega
theorem bk_len {b : Int} {l : List Int} (hb : 0 ≤ b) (h : allTo l.length (bkOk b l) = true) : (l.length : Int) ≤ b := by
  have h := allTo_iff.1 h
  have hnd : l.Nodup := by
    refine List.pairwise_iff_getElem.2 fun i j hi hj hij e => ?_
    have hj' := h j hj
    simp only [bkOk, Bool.and_eq_true, Bool.not_eq_true', List.contains_eq_mem, decide_eq_false_iff_not] at hj'
    rw [getD_get _ _ hj] at hj'
    refine hj'.2 ?_
    rw [← e, List.mem_take_iff_getElem]
    exact ⟨i, by omega, rfl⟩
  have := pigeon b.toNat l hnd (fun x hx => by
    obtain ⟨i, hi, rfl⟩ := List.getElem_of_mem hx
    have h1 := h i hi
    simp only [bkOk, Bool.and_eq_true] at h1
    rw [getD_get _ _ hi] at h1
    have := inR_iff.1 h1.1
    omega)
  omega
theorem nd_len {n : Nat} {l : List Nd} (h : allTo l.length (ndOk n l) = true) : l.length ≤ n := by
  have h := allTo_iff.1 h
  have key : ∀ i, i < l.length → (i : Int) ≤ (nd l i).1 := by
    intro i
    induction i with
    | zero => intro hi; have := h 0 hi; simp only [ndOk, Bool.and_eq_true] at this; have := inR_iff.1 this.1; omega
    | succ i ih =>
      intro hi
      have h1 := ih (by omega)
      have h2 := h (i + 1) hi
      simp only [ndOk, Bool.and_eq_true, Bool.not_eq_true', Bool.and_eq_false_imp, decide_eq_true_eq, decide_eq_false_iff_not, Nat.add_sub_cancel] at h2
      have := h2.2.2 (by omega)
      omega
  rcases Nat.eq_zero_or_pos l.length with h0 | h0
  · omega
  · have h1 := key (l.length - 1) (by omega)
    have h2 := h (l.length - 1) (by omega)
    simp only [ndOk, Bool.and_eq_true] at h2
    have := inR_iff.1 h2.1
    omega
theorem r_impl_routeOk (hu : (rSlc rInt).rd H [vu] under) (hn : (rSlc rNeed).rd H [vn] r.1) (hb : (rSlc rInt).rd H [vb] r.2) (ul : under.length ≤ 1048576) (nl : r.1.length ≤ 1048576) (bl : r.2.length ≤ 1048576) (b1 : 1 ≤ b) (b2 : b ≤ 24) : Run Try.prog 77 [.agg #[vu, .int .i64 b, vr], .agg #[vn, vb]] H fun x H' => Keep H H' ∧ x = .bool (rtOk under.length b r) := by
  have lu : ∀ H : Heap, vlen H vu = some (.int .i64 under.length, H) := fun _ => slc_len hu
  have ln : ∀ H : Heap, vlen H vn = some (.int .i64 r.1.length, H) := fun _ => slc_len hn
  have lb : ∀ H : Heap, vlen H vb = some (.int .i64 r.2.length, H) := fun _ => slc_len hb
  have hwu : IntKind.i64.wrap ((under.length : Int) - 1) = (under.length : Int) - 1 := wrap64 (by omega) (by omega)
  have hwb : IntKind.i64.wrap (b - 1) = b - 1 := wrap64 (by omega) (by omega)
  have bad1 : ∀ i, i < r.1.length → ndOk under.length r.1 i = false → Value.bool false = .bool (rtOk under.length b r) := fun i hi h => by rw [rtOk, allTo_bad hi h]; rfl
  have bad2 : ∀ i, i < r.2.length → bkOk b r.2 i = false → Value.bool false = .bool (rtOk under.length b r) := fun i hi h => by rw [rtOk, allTo_bad hi h]; simp
  refine Run.intro c77 rfl ?_
  simp (maxSteps := 4000000) (disch := omega) only [Zq, evO, vbox, wr, Zeq, if_true, if_false, Nat.reduceEqDiff, Nat.reduceAdd, Nat.reduceLeDiff, Nat.reduceSub, and_self, and_true, true_and, reduceIte, reduceCtorEq, eq_self, implies_true, forall_const, false_implies, imp_self, decide_true, decide_false, x77, ln]
  generalize hG0 : (H.push [vu, .int .i64 b, vr]).push [vn, vb] = H0
  have k0 : Keep H H0 := by rw [← hG0]; repeat' (first | exact Keep.refl _ | assumption | refine Keep.push' ?_ | refine Keep.set' ?_ ?_ | refine Keep.moved' ?_ ?_ | omega)
  have g0 : H0.get H.nxt = some (.own [vu, .int .i64 b, vr]) := by rw [← hG0]; simp (maxSteps := 4000000) (disch := omega) only [Zq, evO, vbox, wr, Zeq, if_true, if_false, Nat.reduceEqDiff, Nat.reduceAdd, Nat.reduceLeDiff, Nat.reduceSub, and_self, and_true, true_and, reduceIte, reduceCtorEq, eq_self, implies_true, forall_const, false_implies, imp_self, decide_true, decide_false]
  have g0r : H0.get (H.nxt + 1) = some (.own [vn, vb]) := by rw [← hG0]; simp (maxSteps := 4000000) (disch := omega) only [Zq, evO, vbox, wr, Zeq, if_true, if_false, Nat.reduceEqDiff, Nat.reduceAdd, Nat.reduceLeDiff, Nat.reduceSub, and_self, and_true, true_and, reduceIte, reduceCtorEq, eq_self, implies_true, forall_const, false_implies, imp_self, decide_true, decide_false]
  have n0 : H0.nxt = H.nxt + 2 := by rw [← hG0]; simp only [Zbg]
  clear hG0
  refine G_forF [2, 3, 10, 11] (r.1.length) (fun i T H1 => T 12 = .int .i64 (i : Int) ∧ Keep H0 H1 ∧ ∀ j, j < i → ndOk under.length r.1 j = true) 0 (Nat.zero_le _) ?_ ?_
  · simp (maxSteps := 4000000) (disch := omega) only [Zq, evO, vbox, wr, Zeq, if_true, if_false, Nat.reduceEqDiff, Nat.reduceAdd, Nat.reduceLeDiff, Nat.reduceSub, and_self, and_true, true_and, reduceIte, reduceCtorEq, eq_self, implies_true, forall_const, false_implies, imp_self, decide_true, decide_false, fix_nil, fix_cons, g0, g0r]
    exact ⟨Keep.refl _, fun j hj => by omega⟩
  rintro i T H1 hi hT ⟨t12, k1, ha⟩
  simp only [fix_nil, fix_cons, Zq, evO, vbox, wr, Zeq, if_true, if_false, Nat.reduceEqDiff, Nat.reduceAdd, Nat.reduceLeDiff, Nat.reduceSub, and_self, and_true, true_and, reduceIte, reduceCtorEq, eq_self, implies_true, forall_const, false_implies, imp_self, decide_true, decide_false] at hT
  obtain ⟨t2, t3, t10, t11⟩ := hT
  have n1 := k1.nxt
  have g1 := (k1.get H.nxt (by omega)).trans g0
  have g1r := (k1.get (H.nxt + 1) (by omega)).trans g0r
  by_cases hin : i < r.1.length
  · obtain ⟨e3, e4, e5⟩ := need_el ((rSlc rNeed).rdk hn (k0.trans k1)) hin
    simp (maxSteps := 4000000) (disch := omega) only [Zq, evO, vbox, wr, Zeq, if_true, if_false, Nat.reduceEqDiff, Nat.reduceAdd, Nat.reduceLeDiff, Nat.reduceSub, and_self, and_true, true_and, reduceIte, reduceCtorEq, eq_self, implies_true, forall_const, false_implies, imp_self, decide_true, decide_false, fix_nil, fix_cons, g0, g0r, t2, t3, t10, t11, t12, g1, g1r, slc_idx (r := rNeed) (sz := 2) rfl hn hin, e3]
    generalize hG2 : (H1.push [.int .i64 0, .int .i64 0]).set H1.nxt [.int .i64 (nd r.1 i).1, .int .i64 (nd r.1 i).2] = H2
    have k2 : Keep H1 H2 := by rw [← hG2]; repeat' (first | exact Keep.refl _ | assumption | refine Keep.push' ?_ | refine Keep.set' ?_ ?_ | refine Keep.moved' ?_ ?_ | omega)
    have g2 : H2.get H1.nxt = some (.own [.int .i64 (nd r.1 i).1, .int .i64 (nd r.1 i).2]) := by rw [← hG2, Zbi, if_pos rfl]
    have n2 : H2.nxt = H1.nxt + 1 := by rw [← hG2, Zbh, Zbg]
    have g2a := (k2.get H.nxt (by omega)).trans g1
    have g2r := (k2.get (H.nxt + 1) (by omega)).trans g1r
    refine G_tame rfl ?_
    simp (maxSteps := 4000000) (disch := omega) only [Zq, evO, vbox, wr, Zeq, if_true, if_false, Nat.reduceEqDiff, Nat.reduceAdd, Nat.reduceLeDiff, Nat.reduceSub, and_self, and_true, true_and, reduceIte, reduceCtorEq, eq_self, implies_true, forall_const, false_implies, imp_self, decide_true, decide_false, fix_nil, fix_cons, g0, g0r, t2, t3, t10, t11, t12, g1, g1r, g2, g2a, g2r, lu, hwu]
    refine GO_call ((r_impl_between (nd r.1 i).1 0 ((under.length : Int) - 1) _).mono ?_)
    rintro _ H3 ⟨k3, rfl⟩
    have n3 := k3.nxt
    have g3 := (k3.get (H1.nxt) (by omega)).trans g2
    have g3a := (k3.get (H.nxt) (by omega)).trans g2a
    have g3r := (k3.get (H.nxt + 1) (by omega)).trans g2r
    have k03 := k0.trans (k1.trans (k2.trans k3))
    by_cases c1 : inR 0 ((under.length : Int) - 1) (nd r.1 i).1 = true
    rotate_left
    · have c1' : inR 0 ((under.length : Int) - 1) (nd r.1 i).1 = false := by simpa using c1
      simp (maxSteps := 4000000) (disch := omega) only [Zq, evO, vbox, wr, Zeq, if_true, if_false, Nat.reduceEqDiff, Nat.reduceAdd, Nat.reduceLeDiff, Nat.reduceSub, and_self, and_true, true_and, reduceIte, reduceCtorEq, eq_self, implies_true, forall_const, false_implies, imp_self, decide_true, decide_false, fix_nil, fix_cons, g0, g0r, t2, t3, t10, t11, t12, g1, g1r, g2, g2a, g2r, g3, g3a, g3r, c1']
      exact ⟨k03, bad1 i hin (by rw [ndOk, c1']; rfl)⟩
    simp (maxSteps := 4000000) (disch := omega) only [Zq, evO, vbox, wr, Zeq, if_true, if_false, Nat.reduceEqDiff, Nat.reduceAdd, Nat.reduceLeDiff, Nat.reduceSub, and_self, and_true, true_and, reduceIte, reduceCtorEq, eq_self, implies_true, forall_const, false_implies, imp_self, decide_true, decide_false, fix_nil, fix_cons, g0, g0r, t2, t3, t10, t11, t12, g1, g1r, g2, g2a, g2r, g3, g3a, g3r, c1]
    refine GO_call ((r_impl_between (nd r.1 i).2 0 1 _).mono ?_)
    rintro _ H4 ⟨k4, rfl⟩
    have n4 := k4.nxt
    have g4 := (k4.get (H1.nxt) (by omega)).trans g3
    have g4a := (k4.get (H.nxt) (by omega)).trans g3a
    have g4r := (k4.get (H.nxt + 1) (by omega)).trans g3r
    have k04 := k03.trans k4
    by_cases c2 : inR 0 1 (nd r.1 i).2 = true
    rotate_left
    · have c2' : inR 0 1 (nd r.1 i).2 = false := by simpa using c2
      simp (maxSteps := 4000000) (disch := omega) only [Zq, evO, vbox, wr, Zeq, if_true, if_false, Nat.reduceEqDiff, Nat.reduceAdd, Nat.reduceLeDiff, Nat.reduceSub, and_self, and_true, true_and, reduceIte, reduceCtorEq, eq_self, implies_true, forall_const, false_implies, imp_self, decide_true, decide_false, fix_nil, fix_cons, g0, g0r, t2, t3, t10, t11, t12, g1, g1r, g2, g2a, g2r, g3, g3a, g3r, g4, g4a, g4r, c2']
      exact ⟨k04, bad1 i hin (by rw [ndOk, c2']; simp)⟩
    by_cases c3 : 0 < i
    · obtain ⟨_, e6, _⟩ := need_el ((rSlc rNeed).rdk hn k04) (show i - 1 < r.1.length by omega)
      have ix := fun H0 : Heap => slc_idx (r := rNeed) (H1 := H0) (sz := 2) (i := i - 1) (k := .i64) rfl hn (by omega)
      by_cases c4 : (nd r.1 i).1 ≤ (nd r.1 (i - 1)).1
      · simp (maxSteps := 4000000) (disch := omega) only [Zq, evO, vbox, wr, Zeq, if_true, if_false, Nat.reduceEqDiff, Nat.reduceAdd, Nat.reduceLeDiff, Nat.reduceSub, and_self, and_true, true_and, reduceIte, reduceCtorEq, eq_self, implies_true, forall_const, false_implies, imp_self, decide_true, decide_false, fix_nil, fix_cons, g0, g0r, t2, t3, t10, t11, t12, g1, g1r, g2, g2a, g2r, g3, g3a, g3r, g4, g4a, g4r, c2, wrap_pred, ix, slc_fad (r := rNeed) (sz := 2) rfl hn (show i - 1 < r.1.length by omega), e6]
        exact ⟨k04, bad1 i hin (by simp [ndOk, c3, c4])⟩
      · simp (maxSteps := 4000000) (disch := omega) only [Zq, evO, vbox, wr, Zeq, if_true, if_false, Nat.reduceEqDiff, Nat.reduceAdd, Nat.reduceLeDiff, Nat.reduceSub, and_self, and_true, true_and, reduceIte, reduceCtorEq, eq_self, implies_true, forall_const, false_implies, imp_self, decide_true, decide_false, fix_nil, fix_cons, g0, g0r, t2, t3, t10, t11, t12, g1, g1r, g2, g2a, g2r, g3, g3a, g3r, g4, g4a, g4r, c2, wrap_pred, ix, slc_fad (r := rNeed) (sz := 2) rfl hn (show i - 1 < r.1.length by omega), e6]
        exact ⟨hin, k1.trans (k2.trans (k3.trans k4)), upto_succ ha (by simp [ndOk, c1, c2, c4])⟩
    · simp (maxSteps := 4000000) (disch := omega) only [Zq, evO, vbox, wr, Zeq, if_true, if_false, Nat.reduceEqDiff, Nat.reduceAdd, Nat.reduceLeDiff, Nat.reduceSub, and_self, and_true, true_and, reduceIte, reduceCtorEq, eq_self, implies_true, forall_const, false_implies, imp_self, decide_true, decide_false, fix_nil, fix_cons, g0, g0r, t2, t3, t10, t11, t12, g1, g1r, g2, g2a, g2r, g3, g3a, g3r, g4, g4a, g4r, c2]
      exact ⟨hin, k1.trans (k2.trans (k3.trans k4)), upto_succ ha (by simp [ndOk, c1, c2, c3])⟩
  obtain rfl : i = r.1.length := by omega
  have ha' := allTo_iff.2 ha
  have k01 := k0.trans k1
  by_cases c1 : r.2.length < 1
  · simp (maxSteps := 4000000) (disch := omega) only [Zq, evO, vbox, wr, Zeq, if_true, if_false, Nat.reduceEqDiff, Nat.reduceAdd, Nat.reduceLeDiff, Nat.reduceSub, and_self, and_true, true_and, reduceIte, reduceCtorEq, eq_self, implies_true, forall_const, false_implies, imp_self, decide_true, decide_false, fix_nil, fix_cons, g0, g0r, t2, t3, t10, t11, t12, g1, g1r, lb]
    exact ⟨k01, by rw [rtOk, ha', decide_eq_false (by omega)]; rfl⟩
  by_cases c2 : b < (r.2.length : Int)
  · simp (maxSteps := 4000000) (disch := omega) only [Zq, evO, vbox, wr, Zeq, if_true, if_false, Nat.reduceEqDiff, Nat.reduceAdd, Nat.reduceLeDiff, Nat.reduceSub, and_self, and_true, true_and, reduceIte, reduceCtorEq, eq_self, implies_true, forall_const, false_implies, imp_self, decide_true, decide_false, fix_nil, fix_cons, g0, g0r, t2, t3, t10, t11, t12, g1, g1r, lb]
    refine ⟨k01, ?_⟩
    rw [rtOk, ha', decide_eq_true (by omega)]
    cases hh : allTo r.2.length (bkOk b r.2) with
    | false => rfl
    | true => have := bk_len (by omega) hh; omega
  simp (maxSteps := 4000000) (disch := omega) only [Zq, evO, vbox, wr, Zeq, if_true, if_false, Nat.reduceEqDiff, Nat.reduceAdd, Nat.reduceLeDiff, Nat.reduceSub, and_self, and_true, true_and, reduceIte, reduceCtorEq, eq_self, implies_true, forall_const, false_implies, imp_self, decide_true, decide_false, fix_nil, fix_cons, g0, g0r, t2, t3, t10, t11, t12, g1, g1r, lb]
  refine G_forF [2, 3, 61, 62] (r.2.length) (fun i T H2 => T 63 = .int .i64 (i : Int) ∧ Keep H1 H2 ∧ ∀ j, j < i → bkOk b r.2 j = true) 0 (Nat.zero_le _) ?_ ?_
  · simp (maxSteps := 4000000) (disch := omega) only [Zq, evO, vbox, wr, Zeq, if_true, if_false, Nat.reduceEqDiff, Nat.reduceAdd, Nat.reduceLeDiff, Nat.reduceSub, and_self, and_true, true_and, reduceIte, reduceCtorEq, eq_self, implies_true, forall_const, false_implies, imp_self, decide_true, decide_false, fix_nil, fix_cons, g0, g0r, t2, t3, t10, t11, t12, g1, g1r]
    exact ⟨Keep.refl _, fun j hj => by omega⟩
  rintro i T H2 hi hT ⟨t63, k2, hb2⟩
  simp only [fix_nil, fix_cons, Zq, evO, vbox, wr, Zeq, if_true, if_false, Nat.reduceEqDiff, Nat.reduceAdd, Nat.reduceLeDiff, Nat.reduceSub, and_self, and_true, true_and, reduceIte, reduceCtorEq, eq_self, implies_true, forall_const, false_implies, imp_self, decide_true, decide_false, t2, t3, t10, t11, t12] at hT
  obtain ⟨t2, t3, t61, t62⟩ := hT
  have n2 := k2.nxt
  have g2 := (k2.get H.nxt (by omega)).trans g1
  have g2r := (k2.get (H.nxt + 1) (by omega)).trans g1r
  have k02 := k01.trans k2
  by_cases hin : i < r.2.length
  · have hbi := (ints_of hb).keep k02
    simp (maxSteps := 4000000) (disch := omega) only [Zq, evO, vbox, wr, Zeq, if_true, if_false, Nat.reduceEqDiff, Nat.reduceAdd, Nat.reduceLeDiff, Nat.reduceSub, and_self, and_true, true_and, reduceIte, reduceCtorEq, eq_self, implies_true, forall_const, false_implies, imp_self, decide_true, decide_false, fix_nil, fix_cons, g0, g0r, t2, t3, t10, t11, t12, g1, g1r, t61, t62, t63, g2, g2r, hbi.idx hin, hbi.ld hin, hwb]
    refine GO_call ((r_impl_between (r.2.getD i 0) 0 (b - 1) _).mono ?_)
    rintro _ H3 ⟨k3, rfl⟩
    have n3 := k3.nxt
    have g3 := (k3.get (H.nxt) (by omega)).trans g2
    have g3r := (k3.get (H.nxt + 1) (by omega)).trans g2r
    have k03 := k02.trans k3
    by_cases d1 : inR 0 (b - 1) (r.2.getD i 0) = true
    rotate_left
    · have d1' : inR 0 (b - 1) (r.2.getD i 0) = false := by simpa using d1
      simp (maxSteps := 4000000) (disch := omega) only [Zq, evO, vbox, wr, Zeq, if_true, if_false, Nat.reduceEqDiff, Nat.reduceAdd, Nat.reduceLeDiff, Nat.reduceSub, and_self, and_true, true_and, reduceIte, reduceCtorEq, eq_self, implies_true, forall_const, false_implies, imp_self, decide_true, decide_false, fix_nil, fix_cons, g0, g0r, t2, t3, t10, t11, t12, g1, g1r, t61, t62, t63, g2, g2r, g3, g3r, d1']
      exact ⟨k03, bad2 i hin (by rw [bkOk, d1']; rfl)⟩
    have hbi3 := (ints_of hb).keep k03
    have hsl := fun H1 : Heap => Sl.slc_hi (H1 := H1) (k := .i64) hbi3 (show i ≤ r.2.length by omega)
    have hsub := IntsK.sub hbi3 (Nat.zero_le i) (show i ≤ r.2.length by omega)
    rw [List.drop_zero, Nat.sub_zero] at hsub
    simp (maxSteps := 4000000) (disch := omega) only [Zq, evO, vbox, wr, Zeq, if_true, if_false, Nat.reduceEqDiff, Nat.reduceAdd, Nat.reduceLeDiff, Nat.reduceSub, and_self, and_true, true_and, reduceIte, reduceCtorEq, eq_self, implies_true, forall_const, false_implies, imp_self, decide_true, decide_false, fix_nil, fix_cons, g0, g0r, t2, t3, t10, t11, t12, g1, g1r, t61, t62, t63, g2, g2r, g3, g3r, d1, hsl]
    refine GO_call ((r_impl_has (x := r.2.getD i 0) hsub (by rw [List.length_take]; omega)).mono ?_)
    rintro _ H4 ⟨k4, rfl⟩
    have n4 := k4.nxt
    by_cases d2 : (r.2.take i).contains (r.2.getD i 0) = true
    · simp (maxSteps := 4000000) (disch := omega) only [Zq, evO, vbox, wr, Zeq, if_true, if_false, Nat.reduceEqDiff, Nat.reduceAdd, Nat.reduceLeDiff, Nat.reduceSub, and_self, and_true, true_and, reduceIte, reduceCtorEq, eq_self, implies_true, forall_const, false_implies, imp_self, decide_true, decide_false, fix_nil, fix_cons, g0, g0r, t2, t3, t10, t11, t12, g1, g1r, t61, t62, t63, g2, g2r, g3, g3r, d2]
      exact ⟨k03.trans k4, bad2 i hin (by rw [bkOk, d2]; simp)⟩
    · have d2' : (r.2.take i).contains (r.2.getD i 0) = false := by simpa using d2
      simp (maxSteps := 4000000) (disch := omega) only [Zq, evO, vbox, wr, Zeq, if_true, if_false, Nat.reduceEqDiff, Nat.reduceAdd, Nat.reduceLeDiff, Nat.reduceSub, and_self, and_true, true_and, reduceIte, reduceCtorEq, eq_self, implies_true, forall_const, false_implies, imp_self, decide_true, decide_false, fix_nil, fix_cons, g0, g0r, t2, t3, t10, t11, t12, g1, g1r, t61, t62, t63, g2, g2r, g3, g3r, d2']
      exact ⟨hin, k2.trans (k3.trans k4), upto_succ hb2 (by rw [bkOk, d1, d2']; rfl)⟩
  obtain rfl : i = r.2.length := by omega
  simp (maxSteps := 4000000) (disch := omega) only [Zq, evO, vbox, wr, Zeq, if_true, if_false, Nat.reduceEqDiff, Nat.reduceAdd, Nat.reduceLeDiff, Nat.reduceSub, and_self, and_true, true_and, reduceIte, reduceCtorEq, eq_self, implies_true, forall_const, false_implies, imp_self, decide_true, decide_false, fix_nil, fix_cons, g0, g0r, t2, t3, t10, t11, t12, g1, g1r, t61, t62, t63, g2, g2r]
  exact ⟨k02, by rw [rtOk, ha', allTo_iff.2 hb2, decide_eq_true (by omega)]; rfl⟩
end
end Go.Proofs.Ythjphddodooahaa.AX
