/- The reference's day: its walk. No condition beyond each law's own; of the program: the functions' forms. -/
import Derived.Test.YtjjglonmaajjoaaPda
namespace Go.Proofs.Ytjjglonmaajjoaa.AX
open Go
set_option maxRecDepth 10000
set_option maxHeartbeats 4000000
set_option linter.unusedSimpArgs false
set_option linter.unusedVariables false
theorem run_cel {B : Heap} {v : Value} {l : List Rn} {i : Nat} (h : (rSlc rRun).rd B [v] l) (hi : i < l.length) : ∀ H, Keep B H → vld1 H (adr v i 4 0) = some (.int .i64 (rn l i).1, H) ∧ vld1 H (adr v i 4 1) = some (.int .i64 (rn l i).2.1, H) ∧ vld1 H (adr v i 4 2) = some (.int .i64 (rn l i).2.2.1, H) ∧ vld1 H (adr v i 4 3) = some (.int .i64 (rn l i).2.2.2, H) := by
  obtain ⟨row, h1, h2, h3⟩ := slc_elK (sz := 4) rfl (by omega) h hi
  have e : row = [.int .i64 l[i].1, .int .i64 l[i].2.1, .int .i64 l[i].2.2.1, .int .i64 l[i].2.2.2] := h1
  subst e
  intro H k
  rw [rn, getD_get _ _ hi]
  exact ⟨(h3 H k).2 0 _ rfl, (h3 H k).2 1 _ rfl, (h3 H k).2 2 _ rfl, (h3 H k).2 3 _ rfl⟩
theorem upto_no {i : Nat} {f : Nat → Bool} (h : ∀ j, j < i → f j = false) (hf : f i = false) : ∀ j, j < i + 1 → f j = false := fun j hj => by
  by_cases e : j = i
  · subst e; exact hf
  · exact h j (by omega)
section
variable {H : Heap} {v w u z : Value} {n : Int} {es : List Ed} {l : List Tp} {la : List Int} {rs : List Rn} {i k : Nat}
theorem r_spec_l21Ready (d : Dy es l la) (hr : (rSlc rTrip).rd H [w] l) (hu : Ints H u la) (hz : (rSlc rRun).rd H [z] rs) (hzl : rs.length ≤ 1000) (hi : i < l.length) (hk : k < (tp l i).2.length) : Run Try.prog 64 [w, u, z, .int .i64 i, .int .i64 k] H fun r H' => Keep H H' ∧ r = .int .i64 (rdy l la rs i k) := by
  obtain ⟨wc, hc, fc⟩ := trip_elK hr hi
  have k0 : Keep H H := Keep.refl _
  have ixw := fun H0 : Heap => slc_idx (r := rTrip) (H1 := H0) (sz := 2) (i := i) (k := .i64) rfl hr hi
  have fxw := fun (H0 : Heap) (o off : Nat) => slc_fad (r := rTrip) (H1 := H0) (sz := 2) (o := o) (off := off) rfl hr hi
  have ixp := fun H0 : Heap => slc_idx (r := rCall) (H1 := H0) (sz := 3) (i := k) (k := .i64) rfl hc hk
  have fxp := fun (H0 : Heap) (o off : Nat) => slc_fad (r := rCall) (H1 := H0) (sz := 3) (i := k) (o := o) (off := off) rfl hc hk
  have e1 := (call_el hc hk).2.2.2
  have ixu := fun H0 : Heap => IntsK.idx (k' := .i64) (H1 := H0) hu (by rw [d.d8]; exact hi : i < la.length)
  have eu := IntsK.ld hu (by rw [d.d8]; exact hi : i < la.length)
  have lz : ∀ H : Heap, vlen H z = some (.int .i64 rs.length, H) := fun _ => slc_len hz
  have h2 := d.d2 i k hi hk
  have h5 := d.d5 i hi
  have h12 := d.d1 i hi
  have hdp : (cl (tp l i).2 k).2.2 = dp l i k := rfl
  have hgi : la.getD i 0 = gi la i := rfl
  rw [hdp] at e1
  rw [hgi] at eu
  by_cases hk0 : k = 0
  · have hw : IntKind.i64.wrap (dp l i k + gi la i) = dp l i k + gi la i := wrap64 (by omega) (by omega)
    refine Run.intro c64 rfl ?_
    simp (maxSteps := 4000000) (disch := omega) only [Zq, evO, vbox, wr, Zeq, if_true, if_false, Nat.reduceEqDiff, Nat.reduceAdd, Nat.reduceLeDiff, Nat.reduceSub, and_self, and_true, true_and, reduceIte, reduceCtorEq, eq_self, implies_true, forall_const, false_implies, imp_self, decide_true, decide_false, x64, ixw, fxw, (fc _ k0).2.2, ixp, fxp, e1, ixu, eu, hw, Zfl (show (k : Int) = 0 by omega)]
    exact ⟨k0, by rw [rdy, if_pos hk0, hk0]⟩
  have hkk : ¬ (k : Int) = 0 := by omega
  have hw : IntKind.i64.wrap ((k : Int) - 1) = ((k - 1 : Nat) : Int) := wrap_pred (by omega) (by omega)
  refine Run.intro c64 rfl ?_
  simp (maxSteps := 4000000) (disch := omega) only [Zq, evO, vbox, wr, Zeq, if_true, if_false, Nat.reduceEqDiff, Nat.reduceAdd, Nat.reduceLeDiff, Nat.reduceSub, and_self, and_true, true_and, reduceIte, reduceCtorEq, eq_self, implies_true, forall_const, false_implies, imp_self, decide_true, decide_false, x64, ixw, fxw, (fc _ k0).2.2, ixp, fxp, e1, Zfm hkk]
  refine G_forF [2, 3, 4, 11] (rs.length) (fun j T H1 => T 12 = .int .i64 (j : Int) ∧ Keep H H1 ∧ ∀ q, q < j → hitR i (k - 1) (rn rs q) = false) 0 (Nat.zero_le _) ?_ ?_
  · simp (maxSteps := 4000000) (disch := omega) only [Zq, evO, vbox, wr, Zeq, if_true, if_false, Nat.reduceEqDiff, Nat.reduceAdd, Nat.reduceLeDiff, Nat.reduceSub, and_self, and_true, true_and, reduceIte, reduceCtorEq, eq_self, implies_true, forall_const, false_implies, imp_self, decide_true, decide_false, fix_nil, fix_cons]
    exact ⟨k0, fun q hq => by omega⟩
  rintro j T H1 hj hT ⟨t12, k1, hno⟩
  simp only [fix_nil, fix_cons, Zq, evO, vbox, wr, Zeq, if_true, if_false, Nat.reduceEqDiff, Nat.reduceAdd, Nat.reduceLeDiff, Nat.reduceSub, and_self, and_true, true_and, reduceIte, reduceCtorEq, eq_self, implies_true, forall_const, false_implies, imp_self, decide_true, decide_false] at hT
  obtain ⟨t2, t3, t4, t11⟩ := hT
  by_cases hjn : j < rs.length
  rotate_left
  · obtain rfl : j = rs.length := by omega
    simp (maxSteps := 4000000) (disch := omega) only [Zq, evO, vbox, wr, Zeq, if_true, if_false, Nat.reduceEqDiff, Nat.reduceAdd, Nat.reduceLeDiff, Nat.reduceSub, and_self, and_true, true_and, reduceIte, reduceCtorEq, eq_self, implies_true, forall_const, false_implies, imp_self, decide_true, decide_false, fix_nil, fix_cons, t2, t3, t4, t11, t12, lz]
    exact ⟨k1, by rw [rdy, if_neg hk0, fnd_none hno]⟩
  have ixz := fun H0 : Heap => slc_idx (r := rRun) (H1 := H0) (sz := 4) (i := j) (k := .i64) rfl hz hjn
  have fxz := fun (H0 : Heap) (o off : Nat) => slc_fad (r := rRun) (H1 := H0) (sz := 4) (i := j) (o := o) (off := off) rfl hz hjn
  obtain ⟨z0, z1, z2, z3⟩ := run_cel hz hjn H1 k1
  by_cases c1 : (rn rs j).1 = (i : Int)
  rotate_left
  · simp (maxSteps := 4000000) (disch := omega) only [Zq, evO, vbox, wr, Zeq, if_true, if_false, Nat.reduceEqDiff, Nat.reduceAdd, Nat.reduceLeDiff, Nat.reduceSub, and_self, and_true, true_and, reduceIte, reduceCtorEq, eq_self, implies_true, forall_const, false_implies, imp_self, decide_true, decide_false, fix_nil, fix_cons, t2, t3, t4, t11, t12, lz, ixz, fxz, z0, Zfm c1]
    exact ⟨hjn, k1, upto_no (i := j) (f := fun q => hitR i (k - 1) (rn rs q)) hno (by simp [hitR, c1])⟩
  by_cases c2 : (rn rs j).2.1 = ((k - 1 : Nat) : Int)
  rotate_left
  · simp (maxSteps := 4000000) (disch := omega) only [Zq, evO, vbox, wr, Zeq, if_true, if_false, Nat.reduceEqDiff, Nat.reduceAdd, Nat.reduceLeDiff, Nat.reduceSub, and_self, and_true, true_and, reduceIte, reduceCtorEq, eq_self, implies_true, forall_const, false_implies, imp_self, decide_true, decide_false, fix_nil, fix_cons, t2, t3, t4, t11, t12, lz, ixz, fxz, z0, z1, Zfl c1, hw, Zfm c2]
    exact ⟨hjn, k1, upto_no (i := j) (f := fun q => hitR i (k - 1) (rn rs q)) hno (by simp [hitR, c2])⟩
  have hf := fnd_hit hjn (by simp [hitR, c1, c2]) hno
  by_cases c3 : dp l i k < (rn rs j).2.2.2
  · simp (maxSteps := 4000000) (disch := omega) only [Zq, evO, vbox, wr, Zeq, if_true, if_false, Nat.reduceEqDiff, Nat.reduceAdd, Nat.reduceLeDiff, Nat.reduceSub, and_self, and_true, true_and, reduceIte, reduceCtorEq, eq_self, implies_true, forall_const, false_implies, imp_self, decide_true, decide_false, fix_nil, fix_cons, t2, t3, t4, t11, t12, lz, ixz, fxz, z0, z1, z3, Zfl c1, hw, Zfl c2, Zfh c3]
    exact ⟨k1, by rw [rdy, if_neg hk0, hf]; congr 1; simp only []; omega⟩
  · simp (maxSteps := 4000000) (disch := omega) only [Zq, evO, vbox, wr, Zeq, if_true, if_false, Nat.reduceEqDiff, Nat.reduceAdd, Nat.reduceLeDiff, Nat.reduceSub, and_self, and_true, true_and, reduceIte, reduceCtorEq, eq_self, implies_true, forall_const, false_implies, imp_self, decide_true, decide_false, fix_nil, fix_cons, t2, t3, t4, t11, t12, lz, ixz, fxz, z0, z1, z3, Zfl c1, hw, Zfl c2, Zfi c3]
    exact ⟨k1, by rw [rdy, if_neg hk0, hf]; congr 1; simp only []; omega⟩
theorem r_spec_l21Free (ok : ridden n es l = true) (he : (rSlc rEdge).rd H [v] es) (hl : es.length ≤ 1048576) (hr : (rSlc rTrip).rd H [w] l) (hz : (rSlc rRun).rd H [z] rs) (hzl : rs.length ≤ 1000) (hv : ∀ r, r ∈ rs → ∃ i k : Nat, r.1 = i ∧ r.2.1 = k ∧ i < l.length ∧ k + 1 < (tp l i).2.length) (e : Int) : Run Try.prog 65 [.agg #[.int .i64 n, v], w, z, .int .i64 e] H fun r H' => Keep H H' ∧ r = .int .i64 (fre es l rs e) := by
  have lz : ∀ H : Heap, vlen H z = some (.int .i64 rs.length, H) := fun _ => slc_len hz
  refine Run.intro c65 rfl ?_
  simp (maxSteps := 4000000) (disch := omega) only [Zq, evO, vbox, wr, Zeq, if_true, if_false, Nat.reduceEqDiff, Nat.reduceAdd, Nat.reduceLeDiff, Nat.reduceSub, and_self, and_true, true_and, reduceIte, reduceCtorEq, eq_self, implies_true, forall_const, false_implies, imp_self, decide_true, decide_false, x65]
  generalize hG1 : H.push [.int .i64 n, v] = H1
  have k1 : Keep H H1 := by rw [← hG1]; exact Keep.push _ _
  have g1 : H1.get H.nxt = some (.own [.int .i64 n, v]) := by rw [← hG1, push_get', if_pos rfl]
  have n1 : H1.nxt = H.nxt + 1 := by rw [← hG1, Zbg]
  refine G_forF [1, 2, 3, 4] (rs.length) (fun j T H2 => T 10 = .int .i64 (j : Int) ∧ T 9 = .int .i64 (fre es l (rs.take j) e) ∧ Keep H1 H2) 0 (Nat.zero_le _) ?_ ?_
  · simp (maxSteps := 4000000) (disch := omega) only [Zq, evO, vbox, wr, Zeq, if_true, if_false, Nat.reduceEqDiff, Nat.reduceAdd, Nat.reduceLeDiff, Nat.reduceSub, and_self, and_true, true_and, reduceIte, reduceCtorEq, eq_self, implies_true, forall_const, false_implies, imp_self, decide_true, decide_false, fix_nil, fix_cons, g1]
    exact ⟨rfl, Keep.refl _⟩
  rintro j T H2 hj hT ⟨t10, t9, k2⟩
  simp only [fix_nil, fix_cons, Zq, evO, vbox, wr, Zeq, if_true, if_false, Nat.reduceEqDiff, Nat.reduceAdd, Nat.reduceLeDiff, Nat.reduceSub, and_self, and_true, true_and, reduceIte, reduceCtorEq, eq_self, implies_true, forall_const, false_implies, imp_self, decide_true, decide_false] at hT
  obtain ⟨t1, t2, t3, t4⟩ := hT
  have k02 := k1.trans k2
  have n2 := k2.nxt
  have g2 := (k2.get H.nxt (by omega)).trans g1
  by_cases hjn : j < rs.length
  rotate_left
  · obtain rfl : j = rs.length := by omega
    simp (maxSteps := 4000000) (disch := omega) only [Zq, evO, vbox, wr, Zeq, if_true, if_false, Nat.reduceEqDiff, Nat.reduceAdd, Nat.reduceLeDiff, Nat.reduceSub, and_self, and_true, true_and, reduceIte, reduceCtorEq, eq_self, implies_true, forall_const, false_implies, imp_self, decide_true, decide_false, fix_nil, fix_cons, g1, t1, t2, t3, t4, t10, t9, g2, lz]
    exact ⟨k02, by rw [List.take_length]⟩
  have ixz := fun H0 : Heap => slc_idx (r := rRun) (H1 := H0) (sz := 4) (i := j) (k := .i64) rfl hz hjn
  have fxz := fun (H0 : Heap) (o off : Nat) => slc_fad (r := rRun) (H1 := H0) (sz := 4) (i := j) (o := o) (off := off) rfl hz hjn
  have eN := (run_elK hz hjn H2 k02).1
  have hft := fre_take (es := es) (l := l) e hjn
  obtain ⟨p, q, hp, hq, hpl, hql⟩ := hv (rn rs j) (by rw [rn, getD_get _ _ hjn]; exact List.getElem_mem hjn)
  have cz := run_cel hz hjn
  generalize hy : rn rs j = y at eN hft hp hq cz
  obtain ⟨a, b, f, t⟩ := y
  simp only [] at eN hp hq cz
  subst hp hq
  have hE : rnE es l ((p : Int), (q : Int), f, t) = lgE es l p q := rfl
  rw [fre1, hE] at hft
  simp only [] at hft
  simp (maxSteps := 4000000) (disch := omega) only [Zq, evO, vbox, wr, Zeq, if_true, if_false, Nat.reduceEqDiff, Nat.reduceAdd, Nat.reduceLeDiff, Nat.reduceSub, and_self, and_true, true_and, reduceIte, reduceCtorEq, eq_self, implies_true, forall_const, false_implies, imp_self, decide_true, decide_false, fix_nil, fix_cons, g1, t1, t2, t3, t4, t10, t9, g2, lz]
  refine G_tame rfl ?_
  simp (maxSteps := 4000000) (disch := omega) only [Zq, evO, vbox, wr, Zeq, if_true, if_false, Nat.reduceEqDiff, Nat.reduceAdd, Nat.reduceLeDiff, Nat.reduceSub, and_self, and_true, true_and, reduceIte, reduceCtorEq, eq_self, implies_true, forall_const, false_implies, imp_self, decide_true, decide_false, fix_nil, fix_cons, g1, t1, t2, t3, t4, t10, t9, g2, ixz, fxz, eN]
  refine GO_call ((r_spec_l21Edge (n := n) (i := p) (k := q) ((rSlc rEdge).rdk he k02) hl ((rSlc rTrip).rdk hr k02) ok hpl hql f t).mono ?_)
  rintro _ H3 ⟨k3, rfl⟩
  have n3 := k3.nxt
  have g3 := (k3.get (H.nxt) (by omega)).trans g2
  have z3 := (cz H3 (k02.trans k3)).2.2.2
  by_cases c1 : lgE es l p q = e
  rotate_left
  · simp (maxSteps := 4000000) (disch := omega) only [Zq, evO, vbox, wr, Zeq, if_true, if_false, Nat.reduceEqDiff, Nat.reduceAdd, Nat.reduceLeDiff, Nat.reduceSub, and_self, and_true, true_and, reduceIte, reduceCtorEq, eq_self, implies_true, forall_const, false_implies, imp_self, decide_true, decide_false, fix_nil, fix_cons, g1, t1, t2, t3, t4, t10, t9, g2, g3, Zfm c1]
    exact ⟨hjn, by rw [hft, if_neg (fun h => c1 h.1)], k2.trans k3⟩
  by_cases c2 : fre es l (rs.take j) e < t
  · simp (maxSteps := 4000000) (disch := omega) only [Zq, evO, vbox, wr, Zeq, if_true, if_false, Nat.reduceEqDiff, Nat.reduceAdd, Nat.reduceLeDiff, Nat.reduceSub, and_self, and_true, true_and, reduceIte, reduceCtorEq, eq_self, implies_true, forall_const, false_implies, imp_self, decide_true, decide_false, fix_nil, fix_cons, g1, t1, t2, t3, t4, t10, t9, g2, g3, Zfl c1, ixz, fxz, z3, Zfh c2]
    exact ⟨hjn, by rw [hft, if_pos ⟨c1, c2⟩], k2.trans k3⟩
  · simp (maxSteps := 4000000) (disch := omega) only [Zq, evO, vbox, wr, Zeq, if_true, if_false, Nat.reduceEqDiff, Nat.reduceAdd, Nat.reduceLeDiff, Nat.reduceSub, and_self, and_true, true_and, reduceIte, reduceCtorEq, eq_self, implies_true, forall_const, false_implies, imp_self, decide_true, decide_false, fix_nil, fix_cons, g1, t1, t2, t3, t4, t10, t9, g2, g3, Zfl c1, ixz, fxz, z3, Zfi c2]
    exact ⟨hjn, by rw [hft, if_neg (fun h => c2 h.2)], k2.trans k3⟩
def zs (l : List Nat) : List Int := l.map (fun k : Nat => (k : Int))
theorem zs_len (l : List Nat) : (zs l).length = l.length := List.length_map _
theorem zs_get (l : List Nat) (i : Nat) : (zs l).getD i 0 = (gn l i : Int) := by
  rw [zs, gn, List.getD_eq_getElem?_getD, List.getElem?_map, List.getD_eq_getElem?_getD]
  cases l[i]? <;> rfl
theorem zs_set (l : List Nat) (i x : Nat) : (zs l).set i (x : Int) = zs (l.set i x) := by rw [zs, zs, List.map_set]
theorem zs_rep (n : Nat) : zs (List.replicate n 0) = List.replicate n 0 := by rw [zs, List.map_replicate]; rfl
/-- What the reference's inner loop holds. -/
def pkV (es : List Ed) (l : List Tp) (la : List Int) (S : Sd) (i : Nat) (b w : Value) : Prop := (pkT es l la S i = none ∧ b = .int .i64 (-1) ∧ w = .int .i64 0) ∨ ∃ (p : Nat) (m : Int), pkT es l la S i = some (p, m) ∧ b = .int .i64 p ∧ w = .int .i64 m
theorem pkV_skip {S : Sd} {b w : Value} (h : pkV es l la S i b w) (hf : fin l S i = true) : pkV es l la S (i + 1) b w := by
  unfold pkV at h ⊢
  rw [pkT, if_pos hf]
  exact h
theorem pkV_take {S : Sd} (hf : fin l S i = false) (h : pkT es l la S i = none ∨ ∃ p m, pkT es l la S i = some (p, m) ∧ cnd es l la S i < m) : pkV es l la S (i + 1) (.int .i64 i) (.int .i64 (cnd es l la S i)) := by
  right
  rw [pkT, if_neg (by rw [hf]; simp)]
  rcases h with h | ⟨p, m, h, h2⟩
  · rw [h]; exact ⟨_, _, rfl, rfl, rfl⟩
  · rw [h]; simp only []; rw [if_pos h2]; exact ⟨_, _, rfl, rfl, rfl⟩
theorem pkV_stay {S : Sd} {p : Nat} {m : Int} (hf : fin l S i = false) (h : pkT es l la S i = some (p, m)) (h2 : ¬ cnd es l la S i < m) : pkV es l la S (i + 1) (.int .i64 p) (.int .i64 m) := by
  right
  rw [pkT, if_neg (by rw [hf]; simp), h]
  simp only []
  rw [if_neg h2]
  exact ⟨_, _, rfl, rfl, rfl⟩
end
end Go.Proofs.Ytjjglonmaajjoaa.AX
