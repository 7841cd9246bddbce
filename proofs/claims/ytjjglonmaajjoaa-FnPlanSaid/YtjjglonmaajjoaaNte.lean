/- Edges that join nodes; the uses of a trip; what is ridden. No condition beyond each law's own; of the program: the functions' forms. -/
import Derived.Test.YtjjglonmaajjoaaNtd
namespace Go.Proofs.Ytjjglonmaajjoaa.AX
open Go
set_option maxRecDepth 10000
set_option maxHeartbeats 4000000
set_option linter.unusedSimpArgs false
set_option linter.unusedVariables false
def edHit (e : Ed) (a b : Int) : Bool := (decide (e.1 = a) && decide (e.2.1 = b)) || (decide (e.1 = b) && decide (e.2.1 = a))
/-- The first edge from place i on, of m, that joins two nodes. -/
def jnF (es : List Ed) (a b : Int) : Nat → Nat → Int
  | _, 0 => -1
  | i, m + 1 => if edHit (ed es i) a b = true then (i : Int) else jnF es a b (i + 1) m
def jn (es : List Ed) (a b : Int) : Int := jnF es a b 0 es.length
theorem jnF_skip {es : List Ed} {a b : Int} : ∀ (m i : Nat), (∀ j, i ≤ j → j < i + m → edHit (ed es j) a b = false) → ∀ r, jnF es a b i (m + r) = jnF es a b (i + m) r
  | 0, i, _, r => by rw [Nat.zero_add, Nat.add_zero]
  | m + 1, i, h, r => by
    have e : m + 1 + r = (m + r) + 1 := by omega
    rw [e, jnF, h i (Nat.le_refl _) (by omega), if_neg (by simp), jnF_skip m (i + 1) (fun j h1 h2 => h j (by omega) (by omega)) r]
    congr 1
    omega
theorem jn_hit {es : List Ed} {a b : Int} {i : Nat} (hi : i < es.length) (h : edHit (ed es i) a b = true) (hb : ∀ j, j < i → edHit (ed es j) a b = false) : jn es a b = i := by
  have e : es.length = i + ((es.length - i - 1) + 1) := by omega
  rw [jn, e, jnF_skip i 0 (fun j _ h2 => hb j (by omega)), Nat.zero_add, jnF, if_pos h]
theorem jn_no {es : List Ed} {a b : Int} (hb : ∀ j, j < es.length → edHit (ed es j) a b = false) : jn es a b = -1 := by
  have := jnF_skip (es := es) (a := a) (b := b) es.length 0 (fun j _ h2 => hb j (by omega)) 0
  rw [Nat.add_zero] at this
  rw [jn, this, jnF]
theorem jn_range (es : List Ed) (a b : Int) : -1 ≤ jn es a b ∧ jn es a b < es.length := by
  have key : ∀ m i, -1 ≤ jnF es a b i m ∧ jnF es a b i m < (i + m : Nat) := by
    intro m
    induction m with
    | zero => intro i; rw [jnF]; omega
    | succ m ih =>
      intro i
      rw [jnF]
      split
      · omega
      · have := ih (i + 1); omega
  have := key es.length 0
  rw [jn]
  omega
theorem no_succ {es : List Ed} {a b : Int} {i : Nat} (h : ∀ j, j < i → edHit (ed es j) a b = false) (hf : edHit (ed es i) a b = false) : ∀ j, j < i + 1 → edHit (ed es j) a b = false := fun j hj => by
  by_cases e : j = i
  · subst e; exact hf
  · exact h j (by omega)
section
variable {H : Heap} {v : Value} {n : Int} {es : List Ed} {a b : Int}
theorem r_impl_joining (he : (rSlc rEdge).rd H [v] es) (hl : es.length ≤ 1048576) : Run Try.prog 93 [.agg #[.int .i64 n, v], .int .i64 a, .int .i64 b] H fun r H' => Keep H H' ∧ ∃ d : Int, r = .tuple #[.int .i64 (jn es a b), .int .i64 d] := by
  have lv : ∀ H : Heap, vlen H v = some (.int .i64 es.length, H) := fun _ => slc_len he
  refine Run.intro c93 rfl ?_
  simp (maxSteps := 4000000) (disch := omega) only [Zq, evO, vbox, wr, Zeq, if_true, if_false, Nat.reduceEqDiff, Nat.reduceAdd, Nat.reduceLeDiff, Nat.reduceSub, and_self, and_true, true_and, reduceIte, reduceCtorEq, eq_self, implies_true, forall_const, false_implies, imp_self, decide_true, decide_false, x93, lv]
  generalize hG0 : H.push [.int .i64 n, v] = H0
  have k0 : Keep H H0 := by rw [← hG0]; exact Keep.push _ _
  have g0 : H0.get H.nxt = some (.own [.int .i64 n, v]) := by rw [← hG0, push_get', if_pos rfl]
  have n0 : H0.nxt = H.nxt + 1 := by rw [← hG0, Zbg]
  refine G_forF [1, 2, 11, 12] (es.length) (fun i T H1 => T 13 = .int .i64 (i : Int) ∧ Keep H0 H1 ∧ ∀ j, j < i → edHit (ed es j) a b = false) 0 (Nat.zero_le _) ?_ ?_
  · simp (maxSteps := 4000000) (disch := omega) only [Zq, evO, vbox, wr, Zeq, if_true, if_false, Nat.reduceEqDiff, Nat.reduceAdd, Nat.reduceLeDiff, Nat.reduceSub, and_self, and_true, true_and, reduceIte, reduceCtorEq, eq_self, implies_true, forall_const, false_implies, imp_self, decide_true, decide_false, fix_nil, fix_cons, g0]
    exact ⟨Keep.refl _, fun j hj => by omega⟩
  rintro i T H1 hi hT ⟨t13, k1, ha⟩
  simp only [fix_nil, fix_cons, Zq, evO, vbox, wr, Zeq, if_true, if_false, Nat.reduceEqDiff, Nat.reduceAdd, Nat.reduceLeDiff, Nat.reduceSub, and_self, and_true, true_and, reduceIte, reduceCtorEq, eq_self, implies_true, forall_const, false_implies, imp_self, decide_true, decide_false] at hT
  obtain ⟨t1, t2, t11, t12⟩ := hT
  have k01 := k0.trans k1
  by_cases hin : i < es.length
  rotate_left
  · obtain rfl : i = es.length := by omega
    simp (maxSteps := 4000000) (disch := omega) only [Zq, evO, vbox, wr, Zeq, if_true, if_false, Nat.reduceEqDiff, Nat.reduceAdd, Nat.reduceLeDiff, Nat.reduceSub, and_self, and_true, true_and, reduceIte, reduceCtorEq, eq_self, implies_true, forall_const, false_implies, imp_self, decide_true, decide_false, fix_nil, fix_cons, g0, t1, t2, t11, t12, t13]
    exact ⟨k01, 0, by rw [jn_no ha]⟩
  have ixe := fun H0 : Heap => slc_idx (r := rEdge) (H1 := H0) (sz := 4) (i := i) (k := .i64) rfl he hin
  have e1 := edge_el ((rSlc rEdge).rdk he k01) hin
  generalize hx : ed es i = x at e1
  simp (maxSteps := 4000000) (disch := omega) only [Zq, evO, vbox, wr, Zeq, if_true, if_false, Nat.reduceEqDiff, Nat.reduceAdd, Nat.reduceLeDiff, Nat.reduceSub, and_self, and_true, true_and, reduceIte, reduceCtorEq, eq_self, implies_true, forall_const, false_implies, imp_self, decide_true, decide_false, fix_nil, fix_cons, g0, t1, t2, t11, t12, t13, ixe, e1]
  generalize hG2 : (H1.push [.int .i64 0, .int .i64 0, .int .i64 0, .int .i64 0]).set H1.nxt [.int .i64 x.1, .int .i64 x.2.1, .int .i64 x.2.2.1, .int .i64 x.2.2.2] = H2
  have k2 : Keep H1 H2 := by rw [← hG2]; repeat' (first | exact Keep.refl _ | assumption | refine Keep.push' ?_ | refine Keep.set' ?_ ?_ | refine Keep.moved' ?_ ?_ | omega)
  have g2 : H2.get H1.nxt = some (.own [.int .i64 x.1, .int .i64 x.2.1, .int .i64 x.2.2.1, .int .i64 x.2.2.2]) := by rw [← hG2, Zbi, if_pos rfl]
  have n2 : H2.nxt = H1.nxt + 1 := by rw [← hG2, Zbh, Zbg]
  have k02 := k01.trans k2
  by_cases c1 : x.1 = a
  · by_cases c2 : x.2.1 = b
    · simp (maxSteps := 4000000) (disch := omega) only [Zq, evO, vbox, wr, Zeq, if_true, if_false, Nat.reduceEqDiff, Nat.reduceAdd, Nat.reduceLeDiff, Nat.reduceSub, and_self, and_true, true_and, reduceIte, reduceCtorEq, eq_self, implies_true, forall_const, false_implies, imp_self, decide_true, decide_false, fix_nil, fix_cons, g0, t1, t2, t11, t12, t13, g2, Zfl c1, Zfl c2]
      exact ⟨k02, 0, by rw [jn_hit hin (by rw [hx, edHit, decide_eq_true c1, decide_eq_true c2]; rfl) ha]⟩
    · by_cases c3 : x.1 = b
      · by_cases c4 : x.2.1 = a
        · simp (maxSteps := 4000000) (disch := omega) only [Zq, evO, vbox, wr, Zeq, if_true, if_false, Nat.reduceEqDiff, Nat.reduceAdd, Nat.reduceLeDiff, Nat.reduceSub, and_self, and_true, true_and, reduceIte, reduceCtorEq, eq_self, implies_true, forall_const, false_implies, imp_self, decide_true, decide_false, fix_nil, fix_cons, g0, t1, t2, t11, t12, t13, g2, Zfl c1, Zfm c2, Zfl c3, Zfl c4]
          exact ⟨k02, 1, by rw [jn_hit hin (by rw [hx, edHit, decide_eq_true c3, decide_eq_true c4]; simp) ha]⟩
        · simp (maxSteps := 4000000) (disch := omega) only [Zq, evO, vbox, wr, Zeq, if_true, if_false, Nat.reduceEqDiff, Nat.reduceAdd, Nat.reduceLeDiff, Nat.reduceSub, and_self, and_true, true_and, reduceIte, reduceCtorEq, eq_self, implies_true, forall_const, false_implies, imp_self, decide_true, decide_false, fix_nil, fix_cons, g0, t1, t2, t11, t12, t13, g2, Zfl c1, Zfm c2, Zfl c3, Zfm c4]
          exact ⟨hin, k1.trans k2, no_succ ha (by rw [hx, edHit, decide_eq_false c2, decide_eq_false c4]; simp)⟩
      · simp (maxSteps := 4000000) (disch := omega) only [Zq, evO, vbox, wr, Zeq, if_true, if_false, Nat.reduceEqDiff, Nat.reduceAdd, Nat.reduceLeDiff, Nat.reduceSub, and_self, and_true, true_and, reduceIte, reduceCtorEq, eq_self, implies_true, forall_const, false_implies, imp_self, decide_true, decide_false, fix_nil, fix_cons, g0, t1, t2, t11, t12, t13, g2, Zfl c1, Zfm c2, Zfm c3]
        exact ⟨hin, k1.trans k2, no_succ ha (by rw [hx, edHit, decide_eq_false c2, decide_eq_false c3]; simp)⟩
  · by_cases c3 : x.1 = b
    · by_cases c4 : x.2.1 = a
      · simp (maxSteps := 4000000) (disch := omega) only [Zq, evO, vbox, wr, Zeq, if_true, if_false, Nat.reduceEqDiff, Nat.reduceAdd, Nat.reduceLeDiff, Nat.reduceSub, and_self, and_true, true_and, reduceIte, reduceCtorEq, eq_self, implies_true, forall_const, false_implies, imp_self, decide_true, decide_false, fix_nil, fix_cons, g0, t1, t2, t11, t12, t13, g2, Zfm c1, Zfl c3, Zfl c4]
        exact ⟨k02, 1, by rw [jn_hit hin (by rw [hx, edHit, decide_eq_true c3, decide_eq_true c4]; simp) ha]⟩
      · simp (maxSteps := 4000000) (disch := omega) only [Zq, evO, vbox, wr, Zeq, if_true, if_false, Nat.reduceEqDiff, Nat.reduceAdd, Nat.reduceLeDiff, Nat.reduceSub, and_self, and_true, true_and, reduceIte, reduceCtorEq, eq_self, implies_true, forall_const, false_implies, imp_self, decide_true, decide_false, fix_nil, fix_cons, g0, t1, t2, t11, t12, t13, g2, Zfm c1, Zfl c3, Zfm c4]
        exact ⟨hin, k1.trans k2, no_succ ha (by rw [hx, edHit, decide_eq_false c1, decide_eq_false c4]; simp)⟩
    · simp (maxSteps := 4000000) (disch := omega) only [Zq, evO, vbox, wr, Zeq, if_true, if_false, Nat.reduceEqDiff, Nat.reduceAdd, Nat.reduceLeDiff, Nat.reduceSub, and_self, and_true, true_and, reduceIte, reduceCtorEq, eq_self, implies_true, forall_const, false_implies, imp_self, decide_true, decide_false, fix_nil, fix_cons, g0, t1, t2, t11, t12, t13, g2, Zfm c1, Zfm c3]
      exact ⟨hin, k1.trans k2, no_succ ha (by rw [hx, edHit, decide_eq_false c1, decide_eq_false c3]; simp)⟩
def oth (e : Ed) (a : Int) : Int := if e.1 = a then e.2.1 else if e.2.1 = a then e.1 else -1
theorem r_spec_l02Other (x : Ed) (a : Int) : Run Try.prog 111 [.agg #[.int .i64 x.1, .int .i64 x.2.1, .int .i64 x.2.2.1, .int .i64 x.2.2.2], .int .i64 a] H fun r H' => Keep H H' ∧ r = .int .i64 (oth x a) := by
  by_cases c1 : x.1 = a
  · refine Run.intro c111 rfl ?_
    simp (maxSteps := 4000000) (disch := omega) only [Zq, evO, vbox, wr, Zeq, if_true, if_false, Nat.reduceEqDiff, Nat.reduceAdd, Nat.reduceLeDiff, Nat.reduceSub, and_self, and_true, true_and, reduceIte, reduceCtorEq, eq_self, implies_true, forall_const, false_implies, imp_self, decide_true, decide_false, x111, Zfl c1]
    exact ⟨Keep.push _ _, by rw [oth, if_pos c1]⟩
  · by_cases c2 : x.2.1 = a
    · refine Run.intro c111 rfl ?_
      simp (maxSteps := 4000000) (disch := omega) only [Zq, evO, vbox, wr, Zeq, if_true, if_false, Nat.reduceEqDiff, Nat.reduceAdd, Nat.reduceLeDiff, Nat.reduceSub, and_self, and_true, true_and, reduceIte, reduceCtorEq, eq_self, implies_true, forall_const, false_implies, imp_self, decide_true, decide_false, x111, Zfm c1, Zfl c2]
      exact ⟨Keep.push _ _, by rw [oth, if_neg c1, if_pos c2]⟩
    · refine Run.intro c111 rfl ?_
      simp (maxSteps := 4000000) (disch := omega) only [Zq, evO, vbox, wr, Zeq, if_true, if_false, Nat.reduceEqDiff, Nat.reduceAdd, Nat.reduceLeDiff, Nat.reduceSub, and_self, and_true, true_and, reduceIte, reduceCtorEq, eq_self, implies_true, forall_const, false_implies, imp_self, decide_true, decide_false, x111, Zfm c1, Zfm c2]
      exact ⟨Keep.push _ _, by rw [oth, if_neg c1, if_neg c2]⟩
theorem oth_hit {N : Int} {e : Ed} (h : edOk N e = true) (hb : 0 ≤ b) : decide (oth e a = b) = edHit e a b := by
  simp only [edOk, Bool.and_eq_true, Bool.not_eq_true', decide_eq_false_iff_not, inR_iff] at h
  have hne := h.2.2.1
  rw [Bool.eq_iff_iff, decide_eq_true_eq]
  simp only [edHit, decide_eq_true_eq, Bool.or_eq_true, Bool.and_eq_true]
  unfold oth
  split
  · rename_i h1
    constructor
    · intro h2; exact .inl ⟨h1, h2⟩
    · rintro (⟨_, h2⟩ | ⟨h2, h3⟩)
      · exact h2
      · omega
  · rename_i h1
    split
    · rename_i h2
      constructor
      · intro h3; exact .inr ⟨h3, h2⟩
      · rintro (⟨h3, _⟩ | ⟨h3, _⟩)
        · exact absurd h3 h1
        · exact h3
    · rename_i h2
      constructor
      · intro h3; omega
      · rintro (⟨h3, _⟩ | ⟨_, h3⟩)
        · exact absurd h3 h1
        · exact absurd h3 h2
theorem r_spec_l09Edge (he : (rSlc rEdge).rd H [v] es) (hl : es.length ≤ 1048576) {N : Int} (hok : ∀ i, i < es.length → edOk N (ed es i) = true) (hb : 0 ≤ b) : Run Try.prog 94 [.agg #[.int .i64 n, v], .int .i64 a, .int .i64 b] H fun r H' => Keep H H' ∧ r = .int .i64 (jn es a b) := by
  have lv : ∀ H : Heap, vlen H v = some (.int .i64 es.length, H) := fun _ => slc_len he
  refine Run.intro c94 rfl ?_
  simp (maxSteps := 4000000) (disch := omega) only [Zq, evO, vbox, wr, Zeq, if_true, if_false, Nat.reduceEqDiff, Nat.reduceAdd, Nat.reduceLeDiff, Nat.reduceSub, and_self, and_true, true_and, reduceIte, reduceCtorEq, eq_self, implies_true, forall_const, false_implies, imp_self, decide_true, decide_false, x94, lv]
  generalize hG0 : H.push [.int .i64 n, v] = H0
  have k0 : Keep H H0 := by rw [← hG0]; exact Keep.push _ _
  have g0 : H0.get H.nxt = some (.own [.int .i64 n, v]) := by rw [← hG0, push_get', if_pos rfl]
  have n0 : H0.nxt = H.nxt + 1 := by rw [← hG0, Zbg]
  refine G_forF [1, 2, 3] (es.length) (fun i T H1 => T 7 = .int .i64 (i : Int) ∧ Keep H0 H1 ∧ ∀ j, j < i → edHit (ed es j) a b = false) 0 (Nat.zero_le _) ?_ ?_
  · simp (maxSteps := 4000000) (disch := omega) only [Zq, evO, vbox, wr, Zeq, if_true, if_false, Nat.reduceEqDiff, Nat.reduceAdd, Nat.reduceLeDiff, Nat.reduceSub, and_self, and_true, true_and, reduceIte, reduceCtorEq, eq_self, implies_true, forall_const, false_implies, imp_self, decide_true, decide_false, fix_nil, fix_cons, g0]
    exact ⟨Keep.refl _, fun j hj => by omega⟩
  rintro i T H1 hi hT ⟨t7, k1, ha⟩
  simp only [fix_nil, fix_cons, Zq, evO, vbox, wr, Zeq, if_true, if_false, Nat.reduceEqDiff, Nat.reduceAdd, Nat.reduceLeDiff, Nat.reduceSub, and_self, and_true, true_and, reduceIte, reduceCtorEq, eq_self, implies_true, forall_const, false_implies, imp_self, decide_true, decide_false] at hT
  obtain ⟨t1, t2, t3⟩ := hT
  have k01 := k0.trans k1
  have g1 := (k1.get H.nxt (by omega)).trans g0
  by_cases hin : i < es.length
  rotate_left
  · obtain rfl : i = es.length := by omega
    simp (maxSteps := 4000000) (disch := omega) only [Zq, evO, vbox, wr, Zeq, if_true, if_false, Nat.reduceEqDiff, Nat.reduceAdd, Nat.reduceLeDiff, Nat.reduceSub, and_self, and_true, true_and, reduceIte, reduceCtorEq, eq_self, implies_true, forall_const, false_implies, imp_self, decide_true, decide_false, fix_nil, fix_cons, g0, t1, t2, t3, t7, g1, lv]
    exact ⟨k01, by rw [jn_no ha]⟩
  have ixe := fun H0 : Heap => slc_idx (r := rEdge) (H1 := H0) (sz := 4) (i := i) (k := .i64) rfl he hin
  have e1 := edge_el ((rSlc rEdge).rdk he k01) hin
  have hh := oth_hit (a := a) (b := b) (hok i hin) hb
  generalize hx : ed es i = x at e1 hh
  simp (maxSteps := 4000000) (disch := omega) only [Zq, evO, vbox, wr, Zeq, if_true, if_false, Nat.reduceEqDiff, Nat.reduceAdd, Nat.reduceLeDiff, Nat.reduceSub, and_self, and_true, true_and, reduceIte, reduceCtorEq, eq_self, implies_true, forall_const, false_implies, imp_self, decide_true, decide_false, fix_nil, fix_cons, g0, t1, t2, t3, t7, g1, ixe, e1, lv]
  refine GO_call ((r_spec_l02Other x a).mono ?_)
  rintro _ H2 ⟨k2, rfl⟩
  have n2 := k2.nxt
  by_cases c1 : oth x a = b
  · rw [decide_eq_true c1] at hh
    simp (maxSteps := 4000000) (disch := omega) only [Zq, evO, vbox, wr, Zeq, if_true, if_false, Nat.reduceEqDiff, Nat.reduceAdd, Nat.reduceLeDiff, Nat.reduceSub, and_self, and_true, true_and, reduceIte, reduceCtorEq, eq_self, implies_true, forall_const, false_implies, imp_self, decide_true, decide_false, fix_nil, fix_cons, g0, t1, t2, t3, t7, g1, Zfl c1]
    exact ⟨k01.trans k2, by rw [jn_hit hin (by rw [hx]; exact hh.symm) ha]⟩
  · rw [decide_eq_false c1] at hh
    simp (maxSteps := 4000000) (disch := omega) only [Zq, evO, vbox, wr, Zeq, if_true, if_false, Nat.reduceEqDiff, Nat.reduceAdd, Nat.reduceLeDiff, Nat.reduceSub, and_self, and_true, true_and, reduceIte, reduceCtorEq, eq_self, implies_true, forall_const, false_implies, imp_self, decide_true, decide_false, fix_nil, fix_cons, g0, t1, t2, t3, t7, g1, Zfm c1]
    exact ⟨hin, k1.trans k2, no_succ ha (by rw [hx]; exact hh.symm)⟩
end
/-! ### What is ridden -/
def rdLeg (es : List Ed) (cs : List Cl) (k : Nat) : Bool := decide (0 ≤ jn es (cl cs k).1 (cl cs (k + 1)).1)
def rdTrip (es : List Ed) (cs : List Cl) : Bool := allTo (cs.length - 1) (rdLeg es cs)
def ridden (n : Int) (es : List Ed) (l : List Tp) : Bool := netOk n es && (tbOk l && allTo l.length (fun i => rdTrip es (tp l i).2))
abbrev Us := Int × Int × Int × Int × Int
def useC (x : Us) : List Value := [.int .i64 x.1, .int .i64 x.2.1, .int .i64 x.2.2.1, .int .i64 x.2.2.2.1, .int .i64 x.2.2.2.2]
theorem useC_len (x : Us) : (useC x).length = 5 := rfl
section
variable {H : Heap} {v w : Value} {n : Int} {es : List Ed} {s : ByteArray} {cs : List Cl}
theorem r_impl_usesOf (he : (rSlc rEdge).rd H [v] es) (hl : es.length ≤ 1048576) (hc : (rSlc rCall).rd H [w] cs) (h2 : 2 ≤ cs.length) (h12 : cs.length ≤ 12) (pl : Int) : Run Try.prog 107 [.agg #[.int .i64 n, v], .agg #[.string s, w], .int .i64 pl] H fun r H' => Keep H H' ∧ ∃ u, r = .tuple #[u, .bool (rdTrip es cs)] ∧ (rdTrip es cs = true → ∃ ys, NewF useC 5 H H' u ys ∧ ys.length ≤ 12) := by
  have lw : ∀ H : Heap, vlen H w = some (.int .i64 cs.length, H) := fun _ => slc_len hc
  refine Run.intro c107 rfl ?_
  simp (maxSteps := 4000000) (disch := omega) only [Zq, evO, vbox, wr, Zeq, if_true, if_false, Nat.reduceEqDiff, Nat.reduceAdd, Nat.reduceLeDiff, Nat.reduceSub, and_self, and_true, true_and, reduceIte, reduceCtorEq, eq_self, implies_true, forall_const, false_implies, imp_self, decide_true, decide_false, x107, lw]
  generalize hGB : (H.push [.int .i64 n, v]).push [.string s, w] = HB
  have kB : Keep H HB := by rw [← hGB]; repeat' (first | exact Keep.refl _ | assumption | refine Keep.push' ?_ | refine Keep.set' ?_ ?_ | refine Keep.moved' ?_ ?_ | omega)
  have gBn : HB.get H.nxt = some (.own [.int .i64 n, v]) := by rw [← hGB]; simp (maxSteps := 4000000) (disch := omega) only [Zq, evO, vbox, wr, Zeq, if_true, if_false, Nat.reduceEqDiff, Nat.reduceAdd, Nat.reduceLeDiff, Nat.reduceSub, and_self, and_true, true_and, reduceIte, reduceCtorEq, eq_self, implies_true, forall_const, false_implies, imp_self, decide_true, decide_false]
  have gBt : HB.get (H.nxt + 1) = some (.own [.string s, w]) := by rw [← hGB]; simp (maxSteps := 4000000) (disch := omega) only [Zq, evO, vbox, wr, Zeq, if_true, if_false, Nat.reduceEqDiff, Nat.reduceAdd, Nat.reduceLeDiff, Nat.reduceSub, and_self, and_true, true_and, reduceIte, reduceCtorEq, eq_self, implies_true, forall_const, false_implies, imp_self, decide_true, decide_false]
  have nB : HB.nxt = H.nxt + 2 := by rw [← hGB]; simp only [Zbg]
  have kX : Keep HB (HB.push []) := Keep.push _ _
  have o0 : NewF useC 5 HB (HB.push []) (.slice (some ⟨HB.nxt, 0, none⟩) 0 5) [] := NewF.new (Keep.refl _)
  rw [nB] at o0
  generalize hG0 : HB.push [] = H0 at *
  clear hG0 hGB
  refine G_forF [2, 3, 4] ((cs.length - 1)) (fun i T H1 => T 9 = .int .i64 ((i + 1 : Nat) : Int) ∧ Keep HB H1 ∧ (∃ u ys, T 8 = u ∧ NewF useC 5 HB H1 u ys ∧ ys.length ≤ i) ∧ ∀ j, j < i → rdLeg es cs j = true) 0 (Nat.zero_le _) ?_ ?_
  · simp (maxSteps := 4000000) (disch := omega) only [Zq, evO, vbox, wr, Zeq, if_true, if_false, Nat.reduceEqDiff, Nat.reduceAdd, Nat.reduceLeDiff, Nat.reduceSub, and_self, and_true, true_and, reduceIte, reduceCtorEq, eq_self, implies_true, forall_const, false_implies, imp_self, decide_true, decide_false, fix_nil, fix_cons]
    exact ⟨rfl, kX, ⟨_, [], rfl, o0, Nat.le_refl _⟩, fun j hj => by omega⟩
  rintro i T H1 hi hT ⟨t9, k1, ⟨u, ys, t8, o1, yl⟩, ha⟩
  simp only [fix_nil, fix_cons, Zq, evO, vbox, wr, Zeq, if_true, if_false, Nat.reduceEqDiff, Nat.reduceAdd, Nat.reduceLeDiff, Nat.reduceSub, and_self, and_true, true_and, reduceIte, reduceCtorEq, eq_self, implies_true, forall_const, false_implies, imp_self, decide_true, decide_false] at hT
  obtain ⟨t2, t3, t4⟩ := hT
  have n1 := k1.nxt
  have k01 := kB.trans k1
  have g1n := (k1.get H.nxt (by omega)).trans gBn
  have g1t := (k1.get (H.nxt + 1) (by omega)).trans gBt
  by_cases hin : i + 1 < cs.length
  rotate_left
  · obtain rfl : i = cs.length - 1 := by omega
    obtain ⟨u1, u2⟩ : vcells u = [u] ∧ noTup u = true := by
      obtain ⟨p, _, _, rfl, _⟩ := o1
      exact ⟨rfl, rfl⟩
    simp (maxSteps := 4000000) (disch := omega) only [Zq, evO, vbox, wr, Zeq, if_true, if_false, Nat.reduceEqDiff, Nat.reduceAdd, Nat.reduceLeDiff, Nat.reduceSub, and_self, and_true, true_and, reduceIte, reduceCtorEq, eq_self, implies_true, forall_const, false_implies, imp_self, decide_true, decide_false, fix_nil, fix_cons, t2, t3, t4, t9, t8, g1n, g1t, lw, u2]
    exact ⟨k01, u, by rw [show rdTrip es cs = true from allTo_iff.2 ha], fun _ => ⟨ys, o1.base (by omega), by omega⟩⟩
  have hw : IntKind.i64.wrap (((i + 1 : Nat) : Int) - 1) = (i : Int) := by rw [wrap64 (by omega) (by omega)]; omega
  have ixp := fun H0 : Heap => slc_idx (r := rCall) (H1 := H0) (sz := 3) (i := i) (k := .i64) rfl hc (by omega)
  have ixq := fun H0 : Heap => slc_idx (r := rCall) (H1 := H0) (sz := 3) (i := i + 1) (k := .i64) rfl hc hin
  have txp := fun (ix o : Nat) => slc_trL (r := rCall) (sz := 3) (i := i) (ix := ix) (o := o) rfl hc (by omega)
  have txq := fun (ix o : Nat) => slc_trL (r := rCall) (sz := 3) (i := i + 1) (ix := ix) (o := o) rfl hc hin
  have bx := slc_blk hc hin
  have e1 := (call_el (i := i) ((rSlc rCall).rdk hc k01) (by omega)).1
  have e2 := (call_el (i := i + 1) ((rSlc rCall).rdk hc k01) hin).1
  have hleg : rdLeg es cs i = decide (0 ≤ jn es (cl cs i).1 (cl cs (i + 1)).1) := rfl
  have hjr := jn_range es (cl cs i).1 (cl cs (i + 1)).1
  generalize cl cs i = x at e1 hleg hjr
  generalize cl cs (i + 1) = y at e2 hleg hjr
  simp (maxSteps := 4000000) (disch := omega) only [Zq, evO, vbox, wr, Zeq, if_true, if_false, Nat.reduceEqDiff, Nat.reduceAdd, Nat.reduceLeDiff, Nat.reduceSub, and_self, and_true, true_and, reduceIte, reduceCtorEq, eq_self, implies_true, forall_const, false_implies, imp_self, decide_true, decide_false, fix_nil, fix_cons, t2, t3, t4, t9, t8, g1n, g1t, lw]
  simp (maxSteps := 4000000) (disch := omega) only [ZD, Zio, Zip, pre_, beq_self_eq_true, Nat.reduceBEq, Zq, evO, vbox, wr, Zeq, if_true, if_false, Nat.reduceEqDiff, Nat.reduceAdd, Nat.reduceLeDiff, Nat.reduceSub, and_self, and_true, true_and, reduceIte, reduceCtorEq, eq_self, implies_true, forall_const, false_implies, imp_self, decide_true, decide_false, fix_nil, fix_cons, t2, t3, t4, t9, t8, g1n, g1t, G_dreg, hw, ixp, ixq, txp, txq, e1, e2]
  first | with_reducible refine And.intro (by repeat' (first | apply And.intro | omega)) ?_ | skip
  generalize hG2 : ((((H1.push [.int .i64 0, .int .i64 0, .int .i64 0]).push [.int .i64 0, .int .i64 0, .int .i64 0]).set H1.nxt [.int .i64 x.1, .int .i64 x.2.1, .int .i64 x.2.2]).set (H1.nxt + 1) [.int .i64 y.1, .int .i64 y.2.1, .int .i64 y.2.2]) = H2
  have k2 : Keep H1 H2 := by rw [← hG2]; repeat' (first | exact Keep.refl _ | assumption | refine Keep.push' ?_ | refine Keep.set' ?_ ?_ | refine Keep.moved' ?_ ?_ | omega)
  have g2a : H2.get H1.nxt = some (.own [.int .i64 x.1, .int .i64 x.2.1, .int .i64 x.2.2]) := by rw [← hG2]; simp (maxSteps := 4000000) (disch := omega) only [Zq, evO, vbox, wr, Zeq, if_true, if_false, Nat.reduceEqDiff, Nat.reduceAdd, Nat.reduceLeDiff, Nat.reduceSub, and_self, and_true, true_and, reduceIte, reduceCtorEq, eq_self, implies_true, forall_const, false_implies, imp_self, decide_true, decide_false]
  have g2b : H2.get (H1.nxt + 1) = some (.own [.int .i64 y.1, .int .i64 y.2.1, .int .i64 y.2.2]) := by rw [← hG2]; simp (maxSteps := 4000000) (disch := omega) only [Zq, evO, vbox, wr, Zeq, if_true, if_false, Nat.reduceEqDiff, Nat.reduceAdd, Nat.reduceLeDiff, Nat.reduceSub, and_self, and_true, true_and, reduceIte, reduceCtorEq, eq_self, implies_true, forall_const, false_implies, imp_self, decide_true, decide_false]
  have n2 : H2.nxt = H1.nxt + 2 := by rw [← hG2]; simp only [Zbg, Zbh]
  have g2n := (k2.get H.nxt (by omega)).trans g1n
  clear hG2
  refine GO_call ((r_impl_joining (n := n) (a := x.1) (b := y.1) ((rSlc rEdge).rdk he (k01.trans k2)) hl).mono ?_)
  rintro _ H3 ⟨k3, d, rfl⟩
  have n3 := k3.nxt
  have g3a := (k3.get (H1.nxt) (by omega)).trans g2a
  have g3b := (k3.get (H1.nxt + 1) (by omega)).trans g2b
  have k13 := k2.trans k3
  generalize jn es x.1 y.1 = z at hleg hjr
  by_cases c1 : z < 0
  · simp (maxSteps := 4000000) (disch := omega) only [Zq, evO, vbox, wr, Zeq, if_true, if_false, Nat.reduceEqDiff, Nat.reduceAdd, Nat.reduceLeDiff, Nat.reduceSub, and_self, and_true, true_and, reduceIte, reduceCtorEq, eq_self, implies_true, forall_const, false_implies, imp_self, decide_true, decide_false, fix_nil, fix_cons, t2, t3, t4, t9, t8, g1n, g1t, g2a, g2b, g2n, g3a, g3b, Zfh c1]
    have : rdTrip es cs = false := allTo_bad (i := i) (by omega) (by rw [hleg, decide_eq_false (by omega)])
    exact ⟨k01.trans k13, _, by rw [this], fun h => by rw [this] at h; cases h⟩
  simp (maxSteps := 4000000) (disch := omega) only [Zq, evO, vbox, wr, Zeq, if_true, if_false, Nat.reduceEqDiff, Nat.reduceAdd, Nat.reduceLeDiff, Nat.reduceSub, and_self, and_true, true_and, reduceIte, reduceCtorEq, eq_self, implies_true, forall_const, false_implies, imp_self, decide_true, decide_false, fix_nil, fix_cons, t2, t3, t4, t9, t8, g1n, g1t, g2a, g2b, g2n, g3a, g3b, Zfi c1]
  obtain ⟨u', H4, e4, o4, k4, n4⟩ := (o1.keep k13).one (y := (z, d, x.2.2, y.2.1, pl)) (bytes := 40) useC_len (by omega) (by omega)
  have e4' : vapp (H3.push [.int .i64 z, .int .i64 d, .int .i64 x.2.2, .int .i64 y.2.1, .int .i64 pl]) 5 40 u (.slice (some ⟨H3.nxt, 0, none⟩) 1 5) = some (u', H4) := e4
  simp (maxSteps := 4000000) (disch := omega) only [Zq, evO, vbox, wr, Zeq, if_true, if_false, Nat.reduceEqDiff, Nat.reduceAdd, Nat.reduceLeDiff, Nat.reduceSub, and_self, and_true, true_and, reduceIte, reduceCtorEq, eq_self, implies_true, forall_const, false_implies, imp_self, decide_true, decide_false, fix_nil, fix_cons, t2, t3, t4, t9, t8, g1n, g1t, g2a, g2b, g2n, g3a, g3b, e4']
  exact ⟨by omega, k4 _ (Nat.le_refl _) (k1.trans k13), ⟨u', _, rfl, o4, by simp; omega⟩, upto_succ ha (by rw [hleg, decide_eq_true (by omega)])⟩
end
end Go.Proofs.Ytjjglonmaajjoaa.AX
