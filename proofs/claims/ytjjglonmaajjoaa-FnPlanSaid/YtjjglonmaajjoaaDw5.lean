/- Drawn nets with their timetables. No condition beyond each law's own; of the program: the functions' forms. -/
import Derived.Test.YtjjglonmaajjoaaDw4
namespace Go.Proofs.Ytjjglonmaajjoaa.AX
open Go
set_option maxRecDepth 10000
set_option maxHeartbeats 4000000
set_option linter.unusedSimpArgs false
set_option linter.unusedVariables false
section
variable {B : Heap} {v : Value} {code : List Int} {p : Nat} {H : Heap}
theorem r_size6 (hb : Bts' H v code) (hl : code.length ≤ 1048576) : Run Try.prog 84 [v, .int .i64 6] H fun r H' => Keep H H' ∧ ∃ z : Nat, 1 ≤ z ∧ z ≤ 6 ∧ r = .int .i64 (z : Int) := by
  have hq : abin .quo (.int .i64 (code.length : Int)) (.int .i64 16) = some (.int .i64 ((code.length / 16 : Nat) : Int)) := by
    rw [abin_quo (by decide), Int.tdiv_eq_ediv_of_nonneg (by omega), wrap64 (by omega) (by omega)]
    rfl
  have hw : IntKind.i64.wrap (2 + ((code.length / 16 : Nat) : Int)) = ((2 + code.length / 16 : Nat) : Int) := by rw [wrap64 (by omega) (by omega)]; omega
  by_cases h : (6 : Int) < ((2 + code.length / 16 : Nat) : Int)
  · refine Run.intro c84 rfl ?_
    simp (maxSteps := 4000000) (disch := omega) only [Zq, evO, vbox, wr, Zeq, if_true, if_false, Nat.reduceEqDiff, Nat.reduceAdd, Nat.reduceLeDiff, Nat.reduceSub, and_self, and_true, true_and, reduceIte, reduceCtorEq, eq_self, implies_true, forall_const, false_implies, imp_self, decide_true, decide_false, x84, hb.len_, hq, hw, Zfh h]
    exact ⟨Keep.refl _, 6, by omega, by omega, rfl⟩
  · refine Run.intro c84 rfl ?_
    simp (maxSteps := 4000000) (disch := omega) only [Zq, evO, vbox, wr, Zeq, if_true, if_false, Nat.reduceEqDiff, Nat.reduceAdd, Nat.reduceLeDiff, Nat.reduceSub, and_self, and_true, true_and, reduceIte, reduceCtorEq, eq_self, implies_true, forall_const, false_implies, imp_self, decide_true, decide_false, x84, hb.len_, hq, hw, Zfi h]
    exact ⟨Keep.refl _, _, by omega, by omega, rfl⟩
/-- A net under construction at q, of edges that are all its own; old memory is as it was, but for the cursor at p. -/
def NP (B : Heap) (v : Value) (code : List Int) (p q : Nat) (N : Nat) (H H1 : Heap) (Q : List Ed → Prop) : Prop := Chg [p, q] H H1 ∧ Cur B v code H1 p ∧ ∃ vn es F, H1.get q = some (.own [.int .i64 (N : Int), vn]) ∧ (rSlc rEdge).own H1 [vn] es F ∧ F.Nodup ∧ (∀ x ∈ F, H.nxt ≤ x) ∧ Q es
def Qf (N : Nat) (es : List Ed) : Prop := (∀ i, i < es.length → edOk N (ed es i) = true) ∧ allOn N es ∧ es.length ≤ 60
theorem Qf_of {N : Nat} {es : List Ed} (h : NI N es N) (h2 : 2 ≤ N) (h5 : N ≤ 5) : Qf N es := ⟨h.1, h.2.1 h2, by have := h.2.2; omega⟩
theorem Qf_app {N : Nat} {es : List Ed} {x : Ed} (h : Qf N es) (hx : edOk N x = true) (hl : es.length ≤ 10) : Qf N (es ++ [x]) := by
  obtain ⟨h1, h2, h3⟩ := h
  have hlen : (es ++ [x]).length = es.length + 1 := by simp
  refine ⟨fun i hi => ?_, fun a ha => ?_, by rw [hlen]; omega⟩
  · rw [hlen] at hi
    by_cases e : i = es.length
    · rw [e, ed_last]; exact hx
    · rw [ed_app (by omega)]; exact h1 i (by omega)
  · obtain ⟨e, he1, he2⟩ := h2 a ha
    exact ⟨e, by rw [hlen]; omega, by rw [ed_app he1]; exact he2⟩
theorem NP_app {q N : Nat} {Q : List Ed → Prop} {H1 H2 : Heap} {vn : Value} {es : List Ed} {F : List Nat} {x : Ed} (hp : p < H.nxt) (hq : q < H.nxt) (hpq : p ≠ q) (hBq : B.nxt ≤ q) (c1 : Chg [p, q] H H1) (c2 : Chg [p] H1 H2) (u2 : Cur B v code H2 p) (o : (rSlc rEdge).own H1 [vn] es F) (nd : F.Nodup) (f : ∀ x ∈ F, H.nxt ≤ x) (hl : es.length ≤ 60) (ni : Q (es ++ [x])) :
    ∃ u H3, vapp (H2.push [.int .i64 x.1, .int .i64 x.2.1, .int .i64 x.2.2.1, .int .i64 x.2.2.2]) 4 32 vn (.slice (some ⟨H2.nxt, 0, none⟩) 1 4) = some (u, H3) ∧ NP B v code p q N H (H3.set q [.int .i64 (N : Int), u]) Q ∧ H2.nxt ≤ H3.nxt ∧ (∀ a, a < H.nxt → H3.get a = H2.get a) ∧ vcells u = [u] ∧ noTup u = true := by
  have n1 := c1.nxt
  have n2 := c2.nxt
  have o2 := (rSlc rEdge).ownChg o c2 (fun a ha hm => by have := f a ha; simp at hm; omega)
  obtain ⟨u, H3, F3, e3, o3, c3, f3, nd3, _⟩ := own_app (bytes := 32) (r := rEdge) (sz := 4) rfl (by omega) o2 (row := [.int .i64 x.1, .int .i64 x.2.1, .int .i64 x.2.2.1, .int .i64 x.2.2.2]) (y := x) (G := []) ⟨rfl, rfl⟩ nd (by simp) (by simp) (by omega)
  have n3 := c3.nxt
  have f3' : ∀ a ∈ F3, H.nxt ≤ a := fun a ha => by
    rcases f3 a ha with h | h | h
    · exact f a h
    · cases h
    · omega
  have old : ∀ a, a < H.nxt → H3.get a = H2.get a := fun a ha => c3.get a (by omega) (fun h => by have := f a h; omega)
  obtain ⟨x1, x2⟩ := slc_cell ((rSlc rEdge).ownrd o3)
  refine ⟨u, H3, e3, ⟨⟨by rw [Zbh]; omega, fun a ha hm => ?_⟩, cur_ch (G := q :: F) u2 (by rw [Zbh]; omega) (fun a ha hm => ?_) (fun a ha => ?_) ?_, u, es ++ [x], F3, by rw [Zbi, if_pos rfl], (rSlc rEdge).ownk o3 (by rw [Zbh]; exact Nat.le_refl _) (fun a ha => by rw [Zbi, if_neg (by have := f3' a ha; omega)]), nd3, f3', ni⟩, n3, old, x1, x2⟩
  · have hm' := hm
    simp only [List.mem_cons, List.not_mem_nil, or_false, not_or] at hm'
    rw [Zbi, if_neg hm'.2, old a ha, c2.get a (by omega) (by simp; exact hm'.1), c1.get a ha hm]
  · simp only [List.mem_cons, not_or] at hm
    rw [Zbi, if_neg hm.1, c3.get a ha hm.2]
  · simp only [List.mem_cons] at ha
    have := u2.2.1
    rcases ha with h | h
    · omega
    · have := f a h; omega
  · simp only [List.mem_cons, not_or]
    exact ⟨hpq, fun h => by have := f p h; omega⟩
theorem r_spec_l09DrawBoth (hb : Bts' B v code) (hl : code.length ≤ 1048576) (hc : ∀ x ∈ code, 0 ≤ x ∧ x ≤ 255) (c : Cur B v code H p) (kB : Keep B H) : Run Try.prog 54 [ptr p 0, v] H fun r H' => Chg [p] H H' ∧ Cur B v code H' p ∧ ∃ (N : Nat) (vn : Value) (es : List Ed) (Fe : List Nat) (w : Value) (l : List Tp) (F : List Nat), r = .tuple #[.agg #[.int .i64 (N : Int), vn], w] ∧ (rSlc rEdge).own H' [vn] es Fe ∧ (∀ a ∈ Fe, H.nxt ≤ a) ∧ (rSlc rTrip).own H' [w] l F ∧ (∀ a ∈ F, H.nxt ≤ a) ∧ 2 ≤ N ∧ N ≤ 5 ∧ (∀ i, i < es.length → edOk N (ed es i) = true) ∧ es.length ≤ 60 ∧ TI es l ∧ l.length ≤ 6 := by
  have pl := c.2.2.1
  have hBn := c.2.1
  refine Run.intro c54 rfl ?_
  simp (maxSteps := 4000000) (disch := omega) only [Zq, evO, vbox, wr, Zeq, if_true, if_false, Nat.reduceEqDiff, Nat.reduceAdd, Nat.reduceLeDiff, Nat.reduceSub, and_self, and_true, true_and, reduceIte, reduceCtorEq, eq_self, implies_true, forall_const, false_implies, imp_self, decide_true, decide_false, x54]
  generalize hG1 : H.push [.int .i64 0, .slice none 0 0] = H1
  have k1 : Keep H H1 := by rw [← hG1]; exact Keep.push _ _
  have n1 : H1.nxt = H.nxt + 1 := by rw [← hG1, Zbg]
  have g1 : H1.get H.nxt = some (.own [.int .i64 0, .slice none 0 0]) := by rw [← hG1, push_get', if_pos rfl]
  clear hG1
  refine GO_call ((r_spec_l01Below (n := 4) hb hl hc (c.chg k1) (by omega) (by omega)).mono ?_)
  rintro _ H2 ⟨c2, u2, z2, rfl, hz2⟩
  have n2 := c2.nxt
  have g2n := (c2.get H.nxt (by omega) (by simp; omega)).trans g1
  have hw0 : IntKind.i64.wrap (2 + (z2 : Int)) = ((2 + z2 : Nat) : Int) := by rw [wrap64 (by omega) (by omega)]; omega
  simp (maxSteps := 4000000) (disch := omega) only [Zq, evO, vbox, wr, Zeq, if_true, if_false, Nat.reduceEqDiff, Nat.reduceAdd, Nat.reduceLeDiff, Nat.reduceSub, and_self, and_true, true_and, reduceIte, reduceCtorEq, eq_self, implies_true, forall_const, false_implies, imp_self, decide_true, decide_false, fix_nil, fix_cons, g1, g2n, hw0]
  obtain ⟨N, hN⟩ : ∃ N, N = 2 + z2 := ⟨_, rfl⟩
  rw [← hN]
  generalize hG3 : (H2.push [.int .i64 0, .slice none 0 0]).set H2.nxt [.int .i64 (N : Int), .slice none 0 0] = H3
  have k3 : Keep H2 H3 := by rw [← hG3]; repeat' (first | exact Keep.refl _ | assumption | refine Keep.push' ?_ | refine Keep.set' ?_ ?_ | refine Keep.moved' ?_ ?_ | omega)
  have g3 : H3.get H2.nxt = some (.own [.int .i64 (N : Int), .slice none 0 0]) := by rw [← hG3, Zbi, if_pos rfl]
  have n3 : H3.nxt = H2.nxt + 1 := by rw [← hG3, Zbh, Zbg]
  have g3n := (k3.get H.nxt (by omega)).trans g2n
  have u3 := u2.chg k3
  have hq3 := g3
  clear g3
  refine G_forF [0, 1, 4, 6] ((N - 1)) (fun i T H4 => T 7 = .int .i64 ((i + 1 : Nat) : Int) ∧ NP B v code p H2.nxt N H3 H4 (fun es => NI N es (i + 1))) 0 (Nat.zero_le _) ?_ ?_
  · simp (maxSteps := 4000000) (disch := omega) only [Zq, evO, vbox, wr, Zeq, if_true, if_false, Nat.reduceEqDiff, Nat.reduceAdd, Nat.reduceLeDiff, Nat.reduceSub, and_self, and_true, true_and, reduceIte, reduceCtorEq, eq_self, implies_true, forall_const, false_implies, imp_self, decide_true, decide_false, fix_nil, fix_cons, g1, g2n, g3n]
    exact ⟨rfl, Chg.refl _ _, u3, _, [], [], hq3, nil_ownc, by simp, by simp, fun i hi => by simp at hi, fun h => by omega, by simp⟩
  rintro i T H4 hi hT ⟨t7, c4, u4, vn, es, F, g4, o4, nd4, f4, ni⟩
  simp only [fix_nil, fix_cons, Zq, evO, vbox, wr, Zeq, if_true, if_false, Nat.reduceEqDiff, Nat.reduceAdd, Nat.reduceLeDiff, Nat.reduceSub, and_self, and_true, true_and, reduceIte, reduceCtorEq, eq_self, implies_true, forall_const, false_implies, imp_self, decide_true, decide_false] at hT
  obtain ⟨t0, t1, t4, t6⟩ := hT
  have n4 := c4.nxt
  have g4n := (c4.get H.nxt (by omega) (by simp; omega)).trans g3n
  have hpq : p ≠ H2.nxt := by omega
  have hel := ni.2.2
  by_cases hin : ((i + 1 : Nat) : Int) < N
  · simp (maxSteps := 4000000) (disch := omega) only [Zq, evO, vbox, wr, Zeq, if_true, if_false, Nat.reduceEqDiff, Nat.reduceAdd, Nat.reduceLeDiff, Nat.reduceSub, and_self, and_true, true_and, reduceIte, reduceCtorEq, eq_self, implies_true, forall_const, false_implies, imp_self, decide_true, decide_false, fix_nil, fix_cons, g1, g2n, g3n, t0, t1, t4, t6, t7, g4, g4n, Zfh hin]
    simp (maxSteps := 4000000) (disch := omega) only [ZD, Zio, Zip, pre_, beq_self_eq_true, Nat.reduceBEq, Zq, evO, vbox, wr, Zeq, if_true, if_false, Nat.reduceEqDiff, Nat.reduceAdd, Nat.reduceLeDiff, Nat.reduceSub, and_self, and_true, true_and, reduceIte, reduceCtorEq, eq_self, implies_true, forall_const, false_implies, imp_self, decide_true, decide_false, fix_nil, fix_cons, g1, g2n, g3n, t0, t1, t4, t6, t7, g4, g4n, G_dreg]
    refine GD_call ((r_spec_l01Below hb hl hc u4 (by omega : 1 ≤ i + 1) (by omega)).mono ?_)
    rintro _ H5 ⟨c5, u5, b, rfl, hb5⟩
    have n5 := c5.nxt
    have old5 : ∀ z, (z ≠ p ∧ z < H4.nxt) → H5.get z = H4.get z := fun z hz => c5.get z hz.2 (by simp; exact hz.1)
    have g5 := (old5 H2.nxt (by omega)).trans g4
    obtain ⟨u, H6, e6, np6, n6, old6, x1, x2⟩ := NP_app (x := (((i + 1 : Nat) : Int), (b : Int), 500, 20)) (Q := fun es => NI N es (i + 1 + 1)) (by omega) (by omega) hpq (by omega) c4 c5 u5 o4 nd4 f4 (by omega) (NI_app ni (by rw [edOk, inR_t (by simp only []; omega), inR_t (by simp only []; omega), inR_t (by simp only []; omega), inR_t (by simp only []; omega)]; simp; omega) (.inr ⟨rfl, b, rfl, rfl, hb5⟩) (by omega))
    have g6 := (old6 H2.nxt (by omega)).trans g5
    simp only [] at e6
    have hw1 : IntKind.i64.wrap (((i + 1 : Nat) : Int) + 1) = ((i + 1 + 1 : Nat) : Int) := by rw [wrap64 (by omega) (by omega)]; omega
    simp (maxSteps := 4000000) (disch := omega) only [ZD, Zio, Zip, pre_, beq_self_eq_true, Nat.reduceBEq, Zq, evO, vbox, wr, Zeq, if_true, if_false, Nat.reduceEqDiff, Nat.reduceAdd, Nat.reduceLeDiff, Nat.reduceSub, and_self, and_true, true_and, reduceIte, reduceCtorEq, eq_self, implies_true, forall_const, false_implies, imp_self, decide_true, decide_false, fix_nil, fix_cons, g1, g2n, g3n, t0, t1, t4, t6, t7, g4, g4n, g5, g6, GD_app, e6, x1, x2]
    first | with_reducible refine And.intro (by repeat' (first | apply And.intro | omega | exact old5 _ (by omega) | exact old6 _ (by omega))) ?_ | skip
    exact ⟨by omega, np6⟩
  have hiN : i + 1 = N := by omega
  rw [hiN] at ni
  simp (maxSteps := 4000000) (disch := omega) only [Zq, evO, vbox, wr, Zeq, if_true, if_false, Nat.reduceEqDiff, Nat.reduceAdd, Nat.reduceLeDiff, Nat.reduceSub, and_self, and_true, true_and, reduceIte, reduceCtorEq, eq_self, implies_true, forall_const, false_implies, imp_self, decide_true, decide_false, fix_nil, fix_cons, g1, g2n, g3n, t0, t1, t4, t6, t7, g4, g4n, Zfi hin]
  refine GO_call ((r_spec_l01Once (n := 3) hb hl hc u4 (by omega) (by omega)).mono ?_)
  rintro _ H5 ⟨c5, u5, on, rfl⟩
  have n5 := c5.nxt
  have old5 : ∀ z, (z ≠ p ∧ z < H4.nxt) → H5.get z = H4.get z := fun z hz => c5.get z hz.2 (by simp; exact hz.1)
  have g5 := (old5 H2.nxt (by omega)).trans g4
  have g5n := (old5 H.nxt (by omega)).trans g4n
  simp (maxSteps := 4000000) (disch := omega) only [Zq, evO, vbox, wr, Zeq, if_true, if_false, Nat.reduceEqDiff, Nat.reduceAdd, Nat.reduceLeDiff, Nat.reduceSub, and_self, and_true, true_and, reduceIte, reduceCtorEq, eq_self, implies_true, forall_const, false_implies, imp_self, decide_true, decide_false, fix_nil, fix_cons, g1, g2n, g3n, t0, t1, t4, t6, t7, g4, g4n, g5, g5n]
  first | refine cK_cut (fun T HE => T 0 = ptr p 0 ∧ T 1 = v ∧ T 4 = ptr H.nxt 0 ∧ T 6 = ptr H2.nxt 0 ∧ NP B v code p H2.nxt N H3 HE (Qf N)) ?_ ?_ | refine G_cut (fun T HE => T 0 = ptr p 0 ∧ T 1 = v ∧ T 4 = ptr H.nxt 0 ∧ T 6 = ptr H2.nxt 0 ∧ NP B v code p H2.nxt N H3 HE (Qf N)) ?_ ?_ | refine GO_cut (fun T HE => T 0 = ptr p 0 ∧ T 1 = v ∧ T 4 = ptr H.nxt 0 ∧ T 6 = ptr H2.nxt 0 ∧ NP B v code p H2.nxt N H3 HE (Qf N)) ?_ ?_
  · cases on with
    | false =>
      simp (maxSteps := 4000000) (disch := omega) only [Zq, evO, vbox, wr, Zeq, if_true, if_false, Nat.reduceEqDiff, Nat.reduceAdd, Nat.reduceLeDiff, Nat.reduceSub, and_self, and_true, true_and, reduceIte, reduceCtorEq, eq_self, implies_true, forall_const, false_implies, imp_self, decide_true, decide_false, fix_nil, fix_cons, g1, g2n, g3n, t0, t1, t4, t6, t7, g4, g4n, g5, g5n]
      exact ⟨⟨by omega, fun a ha hm => by
        have hm' := hm
        simp only [List.mem_cons, List.not_mem_nil, or_false, not_or] at hm'
        rw [old5 a (by omega), c4.get a ha hm]⟩, u5, vn, es, F, g5, (rSlc rEdge).ownChg o4 c5 (fun a ha hm => by have := f4 a ha; simp at hm; omega), nd4, f4, Qf_of ni (by omega) (by omega)⟩
    | true =>
      obtain ⟨u, H6, e6, np6, n6, old6, x1, x2⟩ := NP_app (x := ((0 : Int), (1 : Int), 700, 30)) (Q := Qf N) (by omega) (by omega) hpq (by omega) c4 c5 u5 o4 nd4 f4 (by omega) (Qf_app (Qf_of ni (by omega) (by omega)) (by rw [edOk, inR_t (by simp only []; omega), inR_t (by simp only []; omega), inR_t (by simp only []; omega), inR_t (by simp only []; omega)]; rfl) (by omega))
      have g6 := (old6 H2.nxt (by omega)).trans g5
      simp only [] at e6
      simp (maxSteps := 4000000) (disch := omega) only [Zq, evO, vbox, wr, Zeq, if_true, if_false, Nat.reduceEqDiff, Nat.reduceAdd, Nat.reduceLeDiff, Nat.reduceSub, and_self, and_true, true_and, reduceIte, reduceCtorEq, eq_self, implies_true, forall_const, false_implies, imp_self, decide_true, decide_false, fix_nil, fix_cons, g1, g2n, g3n, t0, t1, t4, t6, t7, g4, g4n, g5, g5n, g6, e6, x1, x2]
      exact np6
  rintro T HE ⟨t0, t1, t4, t6, cE, uE, vn, es, F, gE, oE, ndE, fE, ni⟩
  have nE := cE.nxt
  have gEn : HE.get H.nxt = some (.own [.int .i64 0, .slice none 0 0]) := (cE.get H.nxt (by omega) (by simp; omega)).trans g3n
  obtain ⟨y1, y2⟩ := slc_cell ((rSlc rEdge).ownrd oE)
  have pF : p ∉ F := fun h => by have := fE p h; omega
  simp (maxSteps := 4000000) (disch := omega) only [Zq, evO, vbox, wr, Zeq, if_true, if_false, Nat.reduceEqDiff, Nat.reduceAdd, Nat.reduceLeDiff, Nat.reduceSub, and_self, and_true, true_and, reduceIte, reduceCtorEq, eq_self, implies_true, forall_const, false_implies, imp_self, decide_true, decide_false, fix_nil, fix_cons, g1, g2n, g3n, t0, t1, t4, t6, t7, g4, g4n, g5, g5n]
  simp (maxSteps := 4000000) (disch := omega) only [ZD, Zio, Zip, pre_, beq_self_eq_true, Nat.reduceBEq, Zq, evO, vbox, wr, Zeq, if_true, if_false, Nat.reduceEqDiff, Nat.reduceAdd, Nat.reduceLeDiff, Nat.reduceSub, and_self, and_true, true_and, reduceIte, reduceCtorEq, eq_self, implies_true, forall_const, false_implies, imp_self, decide_true, decide_false, fix_nil, fix_cons, g1, g2n, g3n, t0, t1, t4, t6, t7, g4, g4n, g5, g5n, G_dreg, gE, y1, y2]
  have kBH : Keep B HE := uE.1
  refine GD_call ((r_size6 (IntsK.keep hb kBH) hl).mono ?_)
  rintro _ H7 ⟨k7, z7, z71, z72, rfl⟩
  have n7 := k7.nxt
  have u7 := uE.chg k7
  have o7 := (rSlc rEdge).ownKeep oE k7
  simp (maxSteps := 4000000) (disch := omega) only [ZD, Zio, Zip, pre_, beq_self_eq_true, Nat.reduceBEq, Zq, evO, vbox, wr, Zeq, if_true, if_false, Nat.reduceEqDiff, Nat.reduceAdd, Nat.reduceLeDiff, Nat.reduceSub, and_self, and_true, true_and, reduceIte, reduceCtorEq, eq_self, implies_true, forall_const, false_implies, imp_self, decide_true, decide_false, fix_nil, fix_cons, g1, g2n, g3n, t0, t1, t4, t6, t7, g4, g4n, g5, g5n, y1, y2]
  refine GD_call ((r_spec_l08DrawTable hb hl hc u7 o7 pF ni.2.2 ni.1 ni.2.1 (by omega) (by omega) z71 z72).mono ?_)
  rintro w H8 ⟨c8, u8, l, G, o8, ndG, fG, ti, hl6⟩
  have n8 := c8.nxt
  have old8 : ∀ z, (z ≠ p ∧ z < H7.nxt) → H8.get z = H7.get z := fun z hz => c8.get z hz.2 (by simp; exact hz.1)
  have g8n : H8.get H.nxt = some (.own [.int .i64 0, .slice none 0 0]) := (old8 H.nxt (by omega)).trans ((k7.get H.nxt (by omega)).trans gEn)
  obtain ⟨w1, w2⟩ := slc_cell ((rSlc rTrip).ownrd o8)
  simp (maxSteps := 4000000) (disch := omega) only [ZD, Zio, Zip, pre_, beq_self_eq_true, Nat.reduceBEq, Zq, evO, vbox, wr, Zeq, if_true, if_false, Nat.reduceEqDiff, Nat.reduceAdd, Nat.reduceLeDiff, Nat.reduceSub, and_self, and_true, true_and, reduceIte, reduceCtorEq, eq_self, implies_true, forall_const, false_implies, imp_self, decide_true, decide_false, fix_nil, fix_cons, g1, g2n, g3n, t0, t1, t4, t6, t7, g4, g4n, g5, g5n, g8n, y1, y2, w1, w2]
  first | with_reducible refine And.intro (by repeat' (first | apply And.intro | omega | exact k7.get _ (by omega) | exact old8 _ (by omega))) ?_ | skip
  have o8e := (rSlc rEdge).ownChg o7 c8 (fun a ha hm => by simp at hm; subst hm; exact pF ha)
  refine ⟨⟨by rw [Zbh]; omega, fun a ha hm => ?_⟩, cur_ch (G := [H.nxt]) u8 (by rw [Zbh]; exact Nat.le_refl _) (fun a ha hm => by rw [Zbi, if_neg (by simpa using hm)]) (fun a ha => by simp at ha; omega) (by simp; omega), N, vn, es, F, w, l, G, rfl, (rSlc rEdge).ownk o8e (by rw [Zbh]; exact Nat.le_refl _) (fun a ha => by rw [Zbi, if_neg (by have := fE a ha; omega)]), fun a ha => by have := fE a ha; omega, (rSlc rTrip).ownk o8 (by rw [Zbh]; exact Nat.le_refl _) (fun a ha => by rw [Zbi, if_neg (by have := fG a ha; omega)]), fun a ha => by have := fG a ha; omega, by omega, by omega, ni.1, ni.2.2, ti, hl6⟩
  have hm' : a ≠ p := by simpa using hm
  rw [Zbi, if_neg (by omega), old8 a (by omega), k7.get a (by omega), cE.get a (by omega) (by simp; omega), k3.get a (by omega), c2.get a (by omega) (by simp; omega), k1.get a ha]
end
end Go.Proofs.Ytjjglonmaajjoaa.AX
