/- The reference's day, played: its walk. No condition beyond each law's own; of the program: the functions' forms. -/
import Derived.Test.YtjjglonmaajjoaaPdr
namespace Go.Proofs.Ytjjglonmaajjoaa.AX
open Go
set_option maxRecDepth 10000
set_option maxHeartbeats 4000000
set_option linter.unusedSimpArgs false
set_option linter.unusedVariables false
def noOr {α : Type} (b : Bool) (l : List α) : List α := if b = true then l else []
section
variable {α : Type} {f : α → List Value} {n : Nat} {H0 H1 H2 : Heap} {v w : Value} {xs ys : List α} {y : α}
theorem NewF.agree (h : NewF f n H0 H1 v xs) (hn : H1.nxt ≤ H2.nxt) (hg : H2.get (blk v) = H1.get (blk v)) : NewF f n H0 H2 v xs := by
  obtain ⟨p, h1, h2, rfl, h4⟩ := h
  exact ⟨p, h1, by omega, rfl, by rw [← h4]; exact hg⟩
theorem NewF.blks (h : NewF f n H0 H1 v xs) : H0.nxt ≤ blk v ∧ blk v < H1.nxt := by
  obtain ⟨p, h1, h2, rfl, h4⟩ := h
  exact ⟨h1, h2⟩
theorem NewF.st2 {i : Nat} {x : Value} (hl : ∀ a, (f a).length = n) (h : NewF f n H0 H1 v xs) (hx : noTup x = true) (hv : vcells x = f y) (hi : i < xs.length) :
    ∃ H2, vst H1 n x (adr v i n 0) = some (undef, H2) ∧ NewF f n H0 H2 v (xs.set i y) ∧ (∀ H, H.nxt ≤ H0.nxt → Keep H H1 → Keep H H2) ∧ H2.nxt = H1.nxt ∧ ∀ j, j ≠ blk v → H2.get j = H1.get j := by
  obtain ⟨p, h1, h2, rfl, h4⟩ := h
  refine ⟨H1.set p (fcells f (xs.set i y)), ?_, ⟨p, h1, by rw [Zbh]; exact h2, by rw [List.length_set], by rw [Zbi, if_pos rfl]⟩, fun H hH hk => hk.set' (by omega), by rw [Zbh], fun j hj => by rw [Zbi, if_neg (fun h => hj (by rw [h]; rfl))]⟩
  simp only [adr, Zcq, h4]
  rw [show 0 + i * n + 0 = i * n by omega]
  exact stO_elem hl hx hv hi
end
section
variable {H : Heap} {v w u z : Value} {n : Int} {es : List Ed} {l : List Tp} {la : List Int} {rs : List Rn} {i k : Nat}
theorem r_spec_PlayDay (he : (rSlc rEdge).rd H [v] es) (hl : es.length ≤ 1048576) (hr : (rSlc rTrip).rd H [w] l) (ht : (rSlc rTrip).tot l ≤ 1048576) (hu : (rSlc rInt).rd H [u] la) (hul : la.length ≤ 1048576) : Run Try.prog 25 [.agg #[.int .i64 n, v], w, u] H fun r H' => Keep H H' ∧ OwnS rRun H H' r (noOr (dayOk n es l la) (pday es l la)) := by
  have lw : ∀ H : Heap, vlen H w = some (.int .i64 l.length, H) := fun _ => slc_len hr
  refine Run.intro c25 rfl ?_
  simp (maxSteps := 4000000) (disch := omega) only [Zq, evO, vbox, wr, Zeq, if_true, if_false, Nat.reduceEqDiff, Nat.reduceAdd, Nat.reduceLeDiff, Nat.reduceSub, and_self, and_true, true_and, reduceIte, reduceCtorEq, eq_self, implies_true, forall_const, false_implies, imp_self, decide_true, decide_false, x25]
  generalize hG0 : H.push [.int .i64 n, v] = H0
  have k0 : Keep H H0 := by rw [← hG0]; exact Keep.push _ _
  have g0 : H0.get H.nxt = some (.own [.int .i64 n, v]) := by rw [← hG0, push_get', if_pos rfl]
  have n0 : H0.nxt = H.nxt + 1 := by rw [← hG0, Zbg]
  refine GO_call ((r_spec_DayOk (n := n) ((rSlc rEdge).rdk he k0) hl ((rSlc rTrip).rdk hr k0) ht ((rSlc rInt).rdk hu k0) hul).mono ?_)
  rintro _ H1 ⟨k1, rfl⟩
  have n1 := k1.nxt
  have g1 := (k1.get (H.nxt) (by omega)).trans g0
  have k01 := k0.trans k1
  cases ok : dayOk n es l la with
  | false =>
    simp (maxSteps := 4000000) (disch := omega) only [Zq, evO, vbox, wr, Zeq, if_true, if_false, Nat.reduceEqDiff, Nat.reduceAdd, Nat.reduceLeDiff, Nat.reduceSub, and_self, and_true, true_and, reduceIte, reduceCtorEq, eq_self, implies_true, forall_const, false_implies, imp_self, decide_true, decide_false, fix_nil, fix_cons, g0, g1, ok]
    exact ⟨k01, own_nil⟩
  | true =>
  obtain ⟨d, rok⟩ := dy_of ok
  have l24 := d.d6
  simp (maxSteps := 4000000) (disch := omega) only [Zq, evO, vbox, wr, Zeq, if_true, if_false, Nat.reduceEqDiff, Nat.reduceAdd, Nat.reduceLeDiff, Nat.reduceSub, and_self, and_true, true_and, reduceIte, reduceCtorEq, eq_self, implies_true, forall_const, false_implies, imp_self, decide_true, decide_false, fix_nil, fix_cons, g0, g1, ok, lw]
  generalize hG2 : H1.push [] = H2
  have k2 : Keep H1 H2 := by rw [← hG2]; exact Keep.push _ _
  have n2 : H2.nxt = H1.nxt + 1 := by rw [← hG2, Zbg]
  have o2 : NewF runC 4 H1 H2 (.slice (some ⟨H1.nxt, 0, none⟩) 0 4) [] := by rw [← hG2]; exact NewF.new (Keep.refl _)
  rw [← n2]
  clear hG2
  generalize hG3 : H2.push (List.replicate l.length [Value.int .i64 0]).flatten = H3
  have k3 : Keep H2 H3 := by rw [← hG3]; exact Keep.push _ _
  have n3 : H3.nxt = H2.nxt + 1 := by rw [← hG3, Zbg]
  obtain ⟨cv, hcv⟩ : ∃ cv, cv = Value.slice (some ⟨H2.nxt, 0, none⟩) l.length 1 := ⟨_, rfl⟩
  have hcb : blk cv = H2.nxt := by rw [hcv]; rfl
  have oc3 : NewI H1 H3 cv (List.replicate l.length 0) := ⟨H2.nxt, by omega, by omega, by rw [hcv, List.length_replicate], by rw [← hG3, push_get', if_pos rfl, fcZ]; congr 2; induction l.length with | zero => rfl | succ n ih => simp [List.replicate_succ, ih]⟩
  rw [← hcv]
  clear hG3
  refine G_loopF [1, 2, 3, 8] ((300)) (fun k T Hk => T 7 = T 7 ∧ Keep H1 Hk ∧ ∃ S : Sd, NewF runC 4 H1 Hk (T 7) S.1 ∧ NewI H1 Hk cv (zs S.2) ∧ blk (T 7) ≠ blk cv ∧ Gd es l la S ∧ k = 300 - S.1.length) ?_ ?_
  · simp (maxSteps := 4000000) (disch := omega) only [Zq, evO, vbox, wr, Zeq, if_true, if_false, Nat.reduceEqDiff, Nat.reduceAdd, Nat.reduceLeDiff, Nat.reduceSub, and_self, and_true, true_and, reduceIte, reduceCtorEq, eq_self, implies_true, forall_const, false_implies, imp_self, decide_true, decide_false, fix_nil, fix_cons, g0, g1]
    exact ⟨k2.trans k3, pd0 l, o2.keep k3, by rw [pd0, zs_rep]; exact oc3, by rw [hcb]; show H1.nxt ≠ _; omega, gd0 d, rfl⟩
  rintro k T Hk hT ⟨t7, k4, S, oR, oc, hne, g, hk⟩
  simp only [fix_nil, fix_cons, Zq, evO, vbox, wr, Zeq, if_true, if_false, Nat.reduceEqDiff, Nat.reduceAdd, Nat.reduceLeDiff, Nat.reduceSub, and_self, and_true, true_and, reduceIte, reduceCtorEq, eq_self, implies_true, forall_const, false_implies, imp_self, decide_true, decide_false] at hT
  obtain ⟨t1, t2, t3, t8⟩ := hT
  generalize hrv : T 7 = rv at oR hne
  have t7 := hrv
  have n4 := k4.nxt
  have k04 := k01.trans k4
  have g4 := (k4.get H.nxt (by omega)).trans g1
  have hcI : Ints Hk cv (zs S.2) := oc.intsK
  have nv := Sl.noTup_ (oR.sl runC_len)
  have cv1 := Sl.cells_ (oR.sl runC_len)
  have gl := g.gl
  have hlen := gd_len d g
  simp (maxSteps := 4000000) (disch := omega) only [Zq, evO, vbox, wr, Zeq, if_true, if_false, Nat.reduceEqDiff, Nat.reduceAdd, Nat.reduceLeDiff, Nat.reduceSub, and_self, and_true, true_and, reduceIte, reduceCtorEq, eq_self, implies_true, forall_const, false_implies, imp_self, decide_true, decide_false, fix_nil, fix_cons, g0, g1, t1, t2, t3, t8, t7, g4]
  refine G_forF [1, 2, 3, 7, 8] (l.length) (fun i T Hi => T 11 = .int .i64 (i : Int) ∧ Keep Hk Hi ∧ ∃ b m, T 9 = b ∧ T 10 = m ∧ pkV es l la S i b m) 0 (Nat.zero_le _) ?_ ?_
  · simp (maxSteps := 4000000) (disch := omega) only [Zq, evO, vbox, wr, Zeq, if_true, if_false, Nat.reduceEqDiff, Nat.reduceAdd, Nat.reduceLeDiff, Nat.reduceSub, and_self, and_true, true_and, reduceIte, reduceCtorEq, eq_self, implies_true, forall_const, false_implies, imp_self, decide_true, decide_false, fix_nil, fix_cons, g0, g1, t1, t2, t3, t8, t7, g4]
    exact ⟨Keep.refl _, _, _, rfl, rfl, .inl ⟨rfl, rfl, rfl⟩⟩
  rintro i T Hi hi hT ⟨t11, k5, b9, b10, t9, t10, hp⟩
  simp only [fix_nil, fix_cons, Zq, evO, vbox, wr, Zeq, if_true, if_false, Nat.reduceEqDiff, Nat.reduceAdd, Nat.reduceLeDiff, Nat.reduceSub, and_self, and_true, true_and, reduceIte, reduceCtorEq, eq_self, implies_true, forall_const, false_implies, imp_self, decide_true, decide_false, t1, t2, t3, t8, t7] at hT
  obtain ⟨t1, t2, t3, t7, t8⟩ := hT
  have n5 := k5.nxt
  have k05 := k04.trans k5
  have g5 := (k5.get H.nxt (by omega)).trans g4
  have cI5 := IntsK.keep hcI k5
  by_cases hin : i < l.length
  · have ixc := fun H0 : Heap => IntsK.idx (k' := .i64) (H1 := H0) cI5 (by rw [zs_len, gl]; exact hin)
    have elc := fun (Hx : Heap) (kx : Keep Hi Hx) => IntsK.ld (IntsK.keep cI5 kx) (by rw [zs_len, gl]; exact hin : i < (zs S.2).length)
    simp only [zs_get] at elc
    obtain ⟨wc, hc, fc⟩ := trip_elK hr hin
    have ixw := fun H0 : Heap => slc_idx (r := rTrip) (H1 := H0) (sz := 2) (i := i) (k := .i64) rfl hr hin
    have fxw := fun (H0 : Heap) (o off : Nat) => slc_fad (r := rTrip) (H1 := H0) (sz := 2) (o := o) (off := off) rfl hr hin
    have lc : ∀ H : Heap, vlen H wc = some (.int .i64 (tp l i).2.length, H) := fun _ => slc_len hc
    have h12 := d.d1 i hin
    have hgk := g.gk i hin
    have hw : IntKind.i64.wrap (((tp l i).2.length : Int) - 1) = ((tp l i).2.length : Int) - 1 := wrap64 (by omega) (by omega)
    simp (maxSteps := 4000000) (disch := omega) only [Zq, evO, vbox, wr, Zeq, if_true, if_false, Nat.reduceEqDiff, Nat.reduceAdd, Nat.reduceLeDiff, Nat.reduceSub, and_self, and_true, true_and, reduceIte, reduceCtorEq, eq_self, implies_true, forall_const, false_implies, imp_self, decide_true, decide_false, fix_nil, fix_cons, g0, g1, t1, t2, t3, t8, t7, g4, t11, t9, t10, g5, lw]
    refine G_calm rfl ?_
    by_cases c1 : (gn S.2 i : Int) = ((tp l i).2.length : Int) - 1
    · simp (maxSteps := 4000000) (disch := omega) only [Zq, evO, vbox, wr, Zeq, if_true, if_false, Nat.reduceEqDiff, Nat.reduceAdd, Nat.reduceLeDiff, Nat.reduceSub, and_self, and_true, true_and, reduceIte, reduceCtorEq, eq_self, implies_true, forall_const, false_implies, imp_self, decide_true, decide_false, fix_nil, fix_cons, g0, g1, t1, t2, t3, t8, t7, g4, t11, t9, t10, g5, ixc, elc Hi (Keep.refl _), ixw, fxw, (fc Hi k05).2.2, lc, hw, Zfl c1]
      exact ⟨hin, k5, _, _, rfl, rfl, pkV_skip hp (by simp [fin]; omega)⟩
    have hf : fin l S i = false := by simp [fin]; omega
    have hk1 : gn S.2 i + 1 < (tp l i).2.length := by omega
    simp (maxSteps := 4000000) (disch := omega) only [Zq, evO, vbox, wr, Zeq, if_true, if_false, Nat.reduceEqDiff, Nat.reduceAdd, Nat.reduceLeDiff, Nat.reduceSub, and_self, and_true, true_and, reduceIte, reduceCtorEq, eq_self, implies_true, forall_const, false_implies, imp_self, decide_true, decide_false, fix_nil, fix_cons, g0, g1, t1, t2, t3, t8, t7, g4, t11, t9, t10, g5, ixc, elc Hi (Keep.refl _), ixw, fxw, (fc Hi k05).2.2, lc, hw, Zfm c1]
    generalize hG6 : (Hi.push [.int .i64 0, .int .i64 0, .int .i64 0, .int .i64 0]).set Hi.nxt [.int .i64 i, .int .i64 (gn S.2 i), .int .i64 0, .int .i64 0] = H6
    have k6 : Keep Hi H6 := by rw [← hG6]; repeat' (first | exact Keep.refl _ | assumption | refine Keep.push' ?_ | refine Keep.set' ?_ ?_ | refine Keep.moved' ?_ ?_ | omega)
    have g6 : H6.get Hi.nxt = some (.own [.int .i64 i, .int .i64 (gn S.2 i), .int .i64 0, .int .i64 0]) := by rw [← hG6, Zbi, if_pos rfl]
    have n6 : H6.nxt = Hi.nxt + 1 := by rw [← hG6, Zbh, Zbg]
    have k06 := k05.trans k6
    have k46 := k5.trans k6
    have g6b := (k6.get H.nxt (by omega)).trans g5
    have rrd : ∀ Hx, Keep Hk Hx → (rSlc rRun).rd Hx [rv] S.1 := fun Hx kx => by
      obtain ⟨F, hF, _⟩ := (oR.keep kx).own (hl := runC_len) (m := runM)
      exact (rSlc rRun).ownrd hF
    simp (maxSteps := 4000000) (disch := omega) only [Zq, evO, vbox, wr, Zeq, if_true, if_false, Nat.reduceEqDiff, Nat.reduceAdd, Nat.reduceLeDiff, Nat.reduceSub, and_self, and_true, true_and, reduceIte, reduceCtorEq, eq_self, implies_true, forall_const, false_implies, imp_self, decide_true, decide_false, fix_nil, fix_cons, g0, g1, t1, t2, t3, t8, t7, g4, t11, t9, t10, g5, g6, g6b, ixc, elc H6 k6]
    refine GO_call_eq (by (simp (maxSteps := 4000000) (disch := omega) only [Zq, evO, vbox, wr, Zeq, if_true, if_false, Nat.reduceEqDiff, Nat.reduceAdd, Nat.reduceLeDiff, Nat.reduceSub, and_self, and_true, true_and, reduceIte, reduceCtorEq, eq_self, implies_true, forall_const, false_implies, imp_self, decide_true, decide_false, fix_nil, fix_cons, g0, g1, t1, t2, t3, t8, t7, g4, t11, t9, t10, g5, g6, g6b]) <;> rfl) ((r_spec_l21Ready (k := gn S.2 i) d ((rSlc rTrip).rdk hr k06) (ints_of ((rSlc rInt).rdk hu k06)) (rrd H6 k46) (by omega) hin hgk).mono ?_)
    rintro _ H7 ⟨k7, rfl⟩
    have n7 := k7.nxt
    have g7 := (k7.get (Hi.nxt) (by omega)).trans g6
    have g7b := (k7.get (H.nxt) (by omega)).trans g6b
    have k07 := k06.trans k7
    have k47 := k46.trans k7
    simp (maxSteps := 4000000) (disch := omega) only [ZD, Zio, Zip, pre_, beq_self_eq_true, Nat.reduceBEq, Zq, evO, vbox, wr, Zeq, if_true, if_false, Nat.reduceEqDiff, Nat.reduceAdd, Nat.reduceLeDiff, Nat.reduceSub, and_self, and_true, true_and, reduceIte, reduceCtorEq, eq_self, implies_true, forall_const, false_implies, imp_self, decide_true, decide_false, fix_nil, fix_cons, g0, g1, t1, t2, t3, t8, t7, g4, t11, t9, t10, g5, g6, g6b, g7, g7b, G_dreg]
    refine GD_call ((r_spec_l21Edge (n := n) (i := i) (k := gn S.2 i) ((rSlc rEdge).rdk he k07) hl ((rSlc rTrip).rdk hr k07) rok hin hk1 0 0).mono ?_)
    rintro _ H8 ⟨k8, rfl⟩
    have n8 := k8.nxt
    have g8 := (k8.get Hi.nxt (by omega)).trans g7
    have g8b := (k8.get H.nxt (by omega)).trans g7b
    have k08 := k07.trans k8
    simp (maxSteps := 4000000) (disch := omega) only [ZD, Zio, Zip, pre_, beq_self_eq_true, Nat.reduceBEq, Zq, evO, vbox, wr, Zeq, if_true, if_false, Nat.reduceEqDiff, Nat.reduceAdd, Nat.reduceLeDiff, Nat.reduceSub, and_self, and_true, true_and, reduceIte, reduceCtorEq, eq_self, implies_true, forall_const, false_implies, imp_self, decide_true, decide_false, fix_nil, fix_cons, g0, g1, t1, t2, t3, t8, t7, g4, t11, t9, t10, g5, g6, g6b, g7, g7b, g8, g8b]
    refine GD_call ((r_spec_l21Free (n := n) rok ((rSlc rEdge).rdk he k08) hl ((rSlc rTrip).rdk hr k08) (rrd H8 (k47.trans k8)) (by omega) (fun r h => (g.gt r h).2.2.2) (lgE es l i (gn S.2 i))).mono ?_)
    rintro _ H9 ⟨k9, rfl⟩
    have n9 := k9.nxt
    have k49 := k47.trans (k8.trans k9)
    simp (maxSteps := 4000000) (disch := omega) only [ZD, Zio, Zip, pre_, beq_self_eq_true, Nat.reduceBEq, Zq, evO, vbox, wr, Zeq, if_true, if_false, Nat.reduceEqDiff, Nat.reduceAdd, Nat.reduceLeDiff, Nat.reduceSub, and_self, and_true, true_and, reduceIte, reduceCtorEq, eq_self, implies_true, forall_const, false_implies, imp_self, decide_true, decide_false, fix_nil, fix_cons, g0, g1, t1, t2, t3, t8, t7, g4, t11, t9, t10, g5, g6, g6b, g7, g7b, g8, g8b]
    first | with_reducible refine And.intro (by repeat' (first | apply And.intro | omega | exact k8.get _ (by omega) | exact k9.get _ (by omega))) ?_ | skip
    obtain ⟨R, hR⟩ : ∃ R, R = rdy l la S.1 i (gn S.2 i) := ⟨_, rfl⟩
    obtain ⟨F, hF⟩ : ∃ F, F = fre es l S.1 (lgE es l i (gn S.2 i)) := ⟨_, rfl⟩
    have hcnd : cnd es l la S i = max R F := by rw [cnd, hR, hF]
    rw [← hR, ← hF]
    rcases hp with ⟨p0, rfl, rfl⟩ | ⟨p, m, p0, rfl, rfl⟩
    · by_cases c2 : R < F
      · have e : cnd es l la S i = F := by rw [hcnd]; omega
        simp (maxSteps := 4000000) (disch := omega) only [Zq, evO, vbox, wr, Zeq, if_true, if_false, Nat.reduceEqDiff, Nat.reduceAdd, Nat.reduceLeDiff, Nat.reduceSub, and_self, and_true, true_and, reduceIte, reduceCtorEq, eq_self, implies_true, forall_const, false_implies, imp_self, decide_true, decide_false, fix_nil, fix_cons, g0, g1, t1, t2, t3, t8, t7, g4, t11, t9, t10, g5, g6, g6b, g7, g7b, g8, g8b, Zfh c2]
        exact ⟨hin, k5.trans (k6.trans (k7.trans (k8.trans k9))), _, _, rfl, rfl, by rw [← e]; exact pkV_take hf (.inl p0)⟩
      · have e : cnd es l la S i = R := by rw [hcnd]; omega
        simp (maxSteps := 4000000) (disch := omega) only [Zq, evO, vbox, wr, Zeq, if_true, if_false, Nat.reduceEqDiff, Nat.reduceAdd, Nat.reduceLeDiff, Nat.reduceSub, and_self, and_true, true_and, reduceIte, reduceCtorEq, eq_self, implies_true, forall_const, false_implies, imp_self, decide_true, decide_false, fix_nil, fix_cons, g0, g1, t1, t2, t3, t8, t7, g4, t11, t9, t10, g5, g6, g6b, g7, g7b, g8, g8b, Zfi c2]
        exact ⟨hin, k5.trans (k6.trans (k7.trans (k8.trans k9))), _, _, rfl, rfl, by rw [← e]; exact pkV_take hf (.inl p0)⟩
    · have hp0 : ¬ (p : Int) < 0 := by omega
      by_cases c2 : R < F
      · have e : cnd es l la S i = F := by rw [hcnd]; omega
        by_cases c3 : F < m
        · simp (maxSteps := 4000000) (disch := omega) only [Zq, evO, vbox, wr, Zeq, if_true, if_false, Nat.reduceEqDiff, Nat.reduceAdd, Nat.reduceLeDiff, Nat.reduceSub, and_self, and_true, true_and, reduceIte, reduceCtorEq, eq_self, implies_true, forall_const, false_implies, imp_self, decide_true, decide_false, fix_nil, fix_cons, g0, g1, t1, t2, t3, t8, t7, g4, t11, t9, t10, g5, g6, g6b, g7, g7b, g8, g8b, Zfh c2, Zfi hp0, Zfh c3]
          exact ⟨hin, k5.trans (k6.trans (k7.trans (k8.trans k9))), _, _, rfl, rfl, by rw [← e]; exact pkV_take hf (.inr ⟨p, m, p0, by omega⟩)⟩
        · simp (maxSteps := 4000000) (disch := omega) only [Zq, evO, vbox, wr, Zeq, if_true, if_false, Nat.reduceEqDiff, Nat.reduceAdd, Nat.reduceLeDiff, Nat.reduceSub, and_self, and_true, true_and, reduceIte, reduceCtorEq, eq_self, implies_true, forall_const, false_implies, imp_self, decide_true, decide_false, fix_nil, fix_cons, g0, g1, t1, t2, t3, t8, t7, g4, t11, t9, t10, g5, g6, g6b, g7, g7b, g8, g8b, Zfh c2, Zfi hp0, Zfi c3]
          exact ⟨hin, k5.trans (k6.trans (k7.trans (k8.trans k9))), _, _, rfl, rfl, pkV_stay hf p0 (by omega)⟩
      · have e : cnd es l la S i = R := by rw [hcnd]; omega
        by_cases c3 : R < m
        · simp (maxSteps := 4000000) (disch := omega) only [Zq, evO, vbox, wr, Zeq, if_true, if_false, Nat.reduceEqDiff, Nat.reduceAdd, Nat.reduceLeDiff, Nat.reduceSub, and_self, and_true, true_and, reduceIte, reduceCtorEq, eq_self, implies_true, forall_const, false_implies, imp_self, decide_true, decide_false, fix_nil, fix_cons, g0, g1, t1, t2, t3, t8, t7, g4, t11, t9, t10, g5, g6, g6b, g7, g7b, g8, g8b, Zfi c2, Zfi hp0, Zfh c3]
          exact ⟨hin, k5.trans (k6.trans (k7.trans (k8.trans k9))), _, _, rfl, rfl, by rw [← e]; exact pkV_take hf (.inr ⟨p, m, p0, by omega⟩)⟩
        · simp (maxSteps := 4000000) (disch := omega) only [Zq, evO, vbox, wr, Zeq, if_true, if_false, Nat.reduceEqDiff, Nat.reduceAdd, Nat.reduceLeDiff, Nat.reduceSub, and_self, and_true, true_and, reduceIte, reduceCtorEq, eq_self, implies_true, forall_const, false_implies, imp_self, decide_true, decide_false, fix_nil, fix_cons, g0, g1, t1, t2, t3, t8, t7, g4, t11, t9, t10, g5, g6, g6b, g7, g7b, g8, g8b, Zfi c2, Zfi hp0, Zfi c3]
          exact ⟨hin, k5.trans (k6.trans (k7.trans (k8.trans k9))), _, _, rfl, rfl, pkV_stay hf p0 (by omega)⟩
  obtain rfl : i = l.length := by omega
  rcases hp with ⟨p0, rfl, rfl⟩ | ⟨p, m, p0, rfl, rfl⟩
  · simp (maxSteps := 4000000) (disch := omega) only [Zq, evO, vbox, wr, Zeq, if_true, if_false, Nat.reduceEqDiff, Nat.reduceAdd, Nat.reduceLeDiff, Nat.reduceSub, and_self, and_true, true_and, reduceIte, reduceCtorEq, eq_self, implies_true, forall_const, false_implies, imp_self, decide_true, decide_false, fix_nil, fix_cons, g0, g1, t1, t2, t3, t8, t7, g4, t11, t9, t10, g5, lw, nv, cv1]
    refine ⟨k05, ?_⟩
    rw [noOr, if_pos rfl, gd_last g (pkT_fin p0)]
    obtain ⟨F, hF, fF⟩ := ((oR.keep k5).base (H0 := H) (by omega)).own (hl := runC_len) (m := runM)
    exact ⟨F, hF, fF⟩
  have hp0 : ¬ (p : Int) < 0 := by omega
  obtain ⟨hpl, hf, hm⟩ := pkT_some p0
  rw [hm] at p0
  have hgk := g.gk p hpl
  have hk1 : gn S.2 p + 1 < (tp l p).2.length := by
    have : ¬ gn S.2 p + 1 = (tp l p).2.length := by simpa [fin] using hf
    omega
  have gN := gd_next d g p0
  rw [← hm] at gN
  have hcb := cnd_bd d g hpl
  rw [← hm] at hcb
  have h12 := d.d1 p hpl
  have h2 := d.d2 p (gn S.2 p) hpl hgk
  have h2' := d.d2 p (gn S.2 p + 1) hpl hk1
  have ixc := fun H0 : Heap => IntsK.idx (k' := .i64) (H1 := H0) cI5 (by rw [zs_len, gl]; exact hpl)
  have elc := fun (Hx : Heap) (kx : Keep Hi Hx) => IntsK.ld (IntsK.keep cI5 kx) (by rw [zs_len, gl]; exact hpl : p < (zs S.2).length)
  simp only [zs_get] at elc
  obtain ⟨wc, hc, fc⟩ := trip_elK hr hpl
  have ixw := fun H0 : Heap => slc_idx (r := rTrip) (H1 := H0) (sz := 2) (i := p) (k := .i64) rfl hr hpl
  have fxw := fun (H0 : Heap) (o off : Nat) => slc_fad (r := rTrip) (H1 := H0) (sz := 2) (o := o) (off := off) rfl hr hpl
  have ixp := fun H0 : Heap => slc_idx (r := rCall) (H1 := H0) (sz := 3) (i := gn S.2 p) (k := .i64) rfl hc hgk
  have ixq := fun H0 : Heap => slc_idx (r := rCall) (H1 := H0) (sz := 3) (i := gn S.2 p + 1) (k := .i64) rfl hc hk1
  have fxp := fun (H0 : Heap) (o off : Nat) => slc_fad (r := rCall) (H1 := H0) (sz := 3) (i := gn S.2 p) (o := o) (off := off) rfl hc hgk
  have fxq := fun (H0 : Heap) (o off : Nat) => slc_fad (r := rCall) (H1 := H0) (sz := 3) (i := gn S.2 p + 1) (o := o) (off := off) rfl hc hk1
  have e1 := (call_el ((rSlc rCall).rdk hc k05) hgk).2.2.2
  have e2 := (call_el ((rSlc rCall).rdk hc k05) hk1).2.2.1
  rw [show (cl (tp l p).2 (gn S.2 p)).2.2 = dp l p (gn S.2 p) from rfl] at e1
  rw [show (cl (tp l p).2 (gn S.2 p + 1)).2.1 = av l p (gn S.2 p + 1) from rfl] at e2
  have hw1 : IntKind.i64.wrap ((gn S.2 p : Int) + 1) = ((gn S.2 p + 1 : Nat) : Int) := by rw [wrap64 (by omega) (by omega)]; omega
  have hw2 : IntKind.i64.wrap (m + av l p (gn S.2 p + 1)) = m + av l p (gn S.2 p + 1) := wrap64 (by omega) (by omega)
  have hw3 : IntKind.i64.wrap (m + av l p (gn S.2 p + 1) - dp l p (gn S.2 p)) = m + av l p (gn S.2 p + 1) - dp l p (gn S.2 p) := wrap64 (by omega) (by omega)
  simp (maxSteps := 4000000) (disch := omega) only [Zq, evO, vbox, wr, Zeq, if_true, if_false, Nat.reduceEqDiff, Nat.reduceAdd, Nat.reduceLeDiff, Nat.reduceSub, and_self, and_true, true_and, reduceIte, reduceCtorEq, eq_self, implies_true, forall_const, false_implies, imp_self, decide_true, decide_false, fix_nil, fix_cons, g0, g1, t1, t2, t3, t8, t7, g4, t11, t9, t10, g5, lw, Zfi hp0, ixc, elc Hi (Keep.refl _), ixw, fxw, (fc Hi k05).2.2]
  obtain ⟨x, H6, e6, o6, kk6, n6, ap6, bk6⟩ := NewF.one2 (bytes := 32) (y := ((p : Int), (gn S.2 p : Int), m, m + av l p (gn S.2 p + 1) - dp l p (gn S.2 p))) runC_len (by omega) (oR.keep k5) (by omega)
  refine G_tame rfl ?_
  simp only [runC] at e6
  simp (maxSteps := 4000000) (disch := omega) only [Zq, evO, vbox, wr, Zeq, if_true, if_false, Nat.reduceEqDiff, Nat.reduceAdd, Nat.reduceLeDiff, Nat.reduceSub, and_self, and_true, true_and, reduceIte, reduceCtorEq, eq_self, implies_true, forall_const, false_implies, imp_self, decide_true, decide_false, fix_nil, fix_cons, g0, g1, t1, t2, t3, t8, t7, g4, t11, t9, t10, g5, hw1, ixq, fxq, e2, hw2, ixp, fxp, e1, hw3, e6]
  have hcvb := oc.blks
  have hrvb := oR.blks
  have ocx : NewI H1 H6 cv (zs S.2) := oc.keep k5 |>.agree n6 (ap6 _ (by omega) (fun h => hne h.symm))
  obtain ⟨H7, e7, o7, kk7, n7, on7⟩ := NewF.st2 (x := .int .i64 ((gn S.2 p + 1 : Nat) : Int)) (y := ((gn S.2 p + 1 : Nat) : Int)) (fZ_len .i64) ocx rfl rfl (by rw [zs_len, gl]; exact hpl)
  rw [zs_set] at o7
  have hxne : blk x ≠ blk cv := by
    rcases bk6 with h | h
    · rw [h]; exact hne
    · omega
  simp (maxSteps := 4000000) (disch := omega) only [Zq, evO, vbox, wr, Zeq, if_true, if_false, Nat.reduceEqDiff, Nat.reduceAdd, Nat.reduceLeDiff, Nat.reduceSub, and_self, and_true, true_and, reduceIte, reduceCtorEq, eq_self, implies_true, forall_const, false_implies, imp_self, decide_true, decide_false, fix_nil, fix_cons, g0, g1, t1, t2, t3, t8, t7, g4, t11, t9, t10, g5, ixc, hw1, e7]
  have hnl : (nxtS l S p m).1.length = S.1.length + 1 := by simp [nxtS]
  exact ⟨300 - (nxtS l S p m).1.length, by omega, kk7 H1 (Nat.le_refl _) (kk6 H1 (Nat.le_refl _) (k4.trans k5)), nxtS l S p m, o6.agree (by omega) (on7 _ hxne), o7, hxne, gN, rfl⟩
end
end Go.Proofs.Ytjjglonmaajjoaa.AX
