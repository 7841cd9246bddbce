/- The count of axles of drawn telegrams: the law's run. No condition; of the program: the functions' forms. -/
import Derived.Test.YtiajbefljkikiaaAfd
namespace Go.Proofs.Ytiajbefljkikiaa.AX
open Go
set_option maxRecDepth 10000
set_option maxHeartbeats 4000000
set_option linter.unusedSimpArgs false
set_option linter.unusedVariables false
abbrev Tx := Int × Int × Value
def fT (x : Tx) : List Value := [.int .i64 x.1, .int .i64 x.2.1, x.2.2]
theorem fT_len (x : Tx) : (fT x).length = 3 := rfl
def dbX : List Tx → List Tx
  | [] => []
  | t :: ts => t :: t :: dbX ts
theorem dbX_app : ∀ (ts us : List Tx), dbX (ts ++ us) = dbX ts ++ dbX us
  | [], us => rfl
  | t :: ts, us => by simp only [List.cons_append, dbX, dbX_app ts us]
theorem dbX_len : ∀ ts : List Tx, (dbX ts).length = 2 * ts.length
  | [] => rfl
  | t :: ts => by simp only [dbX, List.length_cons, dbX_len ts]; omega
def TR (H : Heap) (x : Tx) (t : Tel) : Prop := x.1 = t.1 ∧ x.2.1 = t.2.1 ∧ (rSlc rByte).rd H [x.2.2] t.2.2
def TRs (H : Heap) : List Tx → List Tel → Prop
  | [], [] => True
  | x :: xs, t :: ts => TR H x t ∧ TRs H xs ts
  | _, _ => False
section
variable {H H' : Heap}
theorem TRs.keep (k : Keep H H') : ∀ {xs ts}, TRs H xs ts → TRs H' xs ts
  | [], [], _ => trivial
  | x :: xs, t :: ts, h => ⟨⟨h.1.1, h.1.2.1, (rSlc rByte).rdk h.1.2.2 k⟩, TRs.keep k h.2⟩
  | [], _ :: _, h => h.elim
  | _ :: _, [], h => h.elim
theorem TRs.app : ∀ {xs ts ys us}, TRs H xs ts → TRs H ys us → TRs H (xs ++ ys) (ts ++ us)
  | [], [], _, _, _, h => h
  | x :: xs, t :: ts, _, _, h, g => ⟨h.1, TRs.app h.2 g⟩
  | [], _ :: _, _, _, h, _ => h.elim
  | _ :: _, [], _, _, h, _ => h.elim
theorem TRs.dbl : ∀ {xs ts}, TRs H xs ts → TRs H (dbX xs) (dbl ts)
  | [], [], _ => trivial
  | x :: xs, t :: ts, h => ⟨h.1, h.1, TRs.dbl h.2⟩
  | [], _ :: _, h => h.elim
  | _ :: _, [], h => h.elim
theorem TRs.len : ∀ {xs ts}, TRs H xs ts → xs.length = ts.length
  | [], [], _ => rfl
  | x :: xs, t :: ts, h => by simp only [List.length_cons]; rw [TRs.len h.2]
  | [], _ :: _, h => h.elim
  | _ :: _, [], h => h.elim
theorem TRs.rows : ∀ {xs ts}, TRs H xs ts → rdRows rTelegram H (xs.map fT) ts
  | [], [], _ => .nil
  | x :: xs, t :: ts, h => .cons (by obtain ⟨e1, e2, e3⟩ := h.1; rw [fT, e1, e2]; exact telegram_rd' e3) (TRs.rows h.2)
  | [], _ :: _, h => h.elim
  | _ :: _, [], h => h.elim
theorem rows_TRs : ∀ {rows : List (List Value)} {ts : List Tel}, rdRows rTelegram H rows ts → ∃ xs : List Tx, rows = xs.map fT ∧ TRs H xs ts
  | _, _, .nil => ⟨[], rfl, trivial⟩
  | _, _, .cons (a := r) (b := t) h hs => by
    obtain ⟨xs, e, hx⟩ := rows_TRs hs
    obtain ⟨w, e1, hw⟩ := telegram_rd (x0 := t.1) (x1 := t.2.1) (x2 := t.2.2) h
    exact ⟨(t.1, t.2.1, w) :: xs, by rw [e, e1]; rfl, ⟨rfl, rfl, hw⟩, hx⟩
theorem tel_cells {v : Value} {ts : List Tel} (h : (rSlc rTelegram).rd H [v] ts) : ∃ xs : List Tx, TRs H xs ts ∧ Sl H v 3 ts.length (fcells fT xs) := by
  obtain ⟨v', rows, e, hs, hr⟩ := h
  obtain ⟨xs, e1, hx⟩ := rows_TRs hr
  simp only [List.cons.injEq, and_true] at e
  subst e e1
  exact ⟨xs, hx, hs⟩
theorem tel_of {v : Value} {ts : List Tel} {xs : List Tx} (hs : Sl H v 3 ts.length (fcells fT xs)) (hx : TRs H xs ts) : (rSlc rTelegram).rd H [v] ts :=
  ⟨v, xs.map fT, rfl, hs, hx.rows⟩
end
theorem r_laws_FnAxles {H : Heap} {v0 : Value} {code : List Int} (h : Bts' H v0 code) (hc : ∀ x ∈ code, 0 ≤ x ∧ x ≤ 255) : Run Try.prog 4 [v0] H fun r _ => r = .bool true := by
  refine Run.intro c4 rfl ?_
  simp (maxSteps := 4000000) (disch := omega) only [Zq, evO, vbox, wr, Zeq, if_true, if_false, Nat.reduceEqDiff, Nat.reduceAdd, Nat.reduceLeDiff, Nat.reduceSub, and_self, and_true, true_and, reduceIte, reduceCtorEq, eq_self, implies_true, forall_const, false_implies, imp_self, decide_true, decide_false, x4]
  refine GO_call ((r_laws_big h).mono ?_)
  rintro _ H1 ⟨k1, rfl⟩
  by_cases hl : code.length ≤ 1048576
  rotate_left
  · simp (maxSteps := 4000000) (disch := omega) only [Zq, evO, vbox, wr, Zeq, if_true, if_false, Nat.reduceEqDiff, Nat.reduceAdd, Nat.reduceLeDiff, Nat.reduceSub, and_self, and_true, true_and, reduceIte, reduceCtorEq, eq_self, implies_true, forall_const, false_implies, imp_self, decide_true, decide_false, fix_nil, fix_cons]
  simp (maxSteps := 4000000) (disch := omega) only [Zq, evO, vbox, wr, Zeq, if_true, if_false, Nat.reduceEqDiff, Nat.reduceAdd, Nat.reduceLeDiff, Nat.reduceSub, and_self, and_true, true_and, reduceIte, reduceCtorEq, eq_self, implies_true, forall_const, false_implies, imp_self, decide_true, decide_false, fix_nil, fix_cons]
  refine GO_call ((r_spec_DrawRightTelegrams (IntsK.keep h k1) hl hc).mono ?_)
  rintro z H2 ⟨k2, ts, hz, hts, hlen⟩
  have lz : ∀ H : Heap, vlen H z = some (.int .i64 ts.length, H) := fun _ => slc_len hz
  obtain ⟨xs, hx, hsl⟩ := tel_cells hz
  have hxl := hx.len
  obtain ⟨cn, ov, a1, a2, a3, a4, a5, a6⟩ := ax_law hts (by omega)
  simp (maxSteps := 4000000) (disch := omega) only [Zq, evO, vbox, wr, Zeq, if_true, if_false, Nat.reduceEqDiff, Nat.reduceAdd, Nat.reduceLeDiff, Nat.reduceSub, and_self, and_true, true_and, reduceIte, reduceCtorEq, eq_self, implies_true, forall_const, false_implies, imp_self, decide_true, decide_false, fix_nil, fix_cons]
  generalize hG3 : H2.push [] = H3
  have k3 : Keep H2 H3 := by rw [← hG3]; exact Keep.push _ _
  have n3 : H3.nxt = H2.nxt + 1 := by rw [← hG3, Zbg]
  have o3 : NewF fT 3 H2 H3 (.slice (some ⟨H2.nxt, 0, none⟩) 0 3) [] := by rw [← hG3]; exact NewF.new (Keep.refl _)
  clear hG3
  refine G_forF [3] (ts.length) (fun i T H4 => T 5 = .int .i64 (i : Int) ∧ Keep H2 H4 ∧ NewF fT 3 H2 H4 (T 4) (dbX (xs.take i))) 0 (Nat.zero_le _) ?_ ?_
  · simp (maxSteps := 4000000) (disch := omega) only [Zq, evO, vbox, wr, Zeq, if_true, if_false, Nat.reduceEqDiff, Nat.reduceAdd, Nat.reduceLeDiff, Nat.reduceSub, and_self, and_true, true_and, reduceIte, reduceCtorEq, eq_self, implies_true, forall_const, false_implies, imp_self, decide_true, decide_false, fix_nil, fix_cons]
    exact ⟨k3, o3⟩
  rintro i T H4 hi hT ⟨t5, k4, o4⟩
  simp only [fix_nil, fix_cons, Zq, evO, vbox, wr, Zeq, if_true, if_false, Nat.reduceEqDiff, Nat.reduceAdd, Nat.reduceLeDiff, Nat.reduceSub, and_self, and_true, true_and, reduceIte, reduceCtorEq, eq_self, implies_true, forall_const, false_implies, imp_self, decide_true, decide_false] at hT
  have t3 := hT
  generalize hw : T 4 = w at o4
  have t4 := hw
  by_cases hin : i < ts.length
  · have ixz := fun H0 : Heap => slc_idx (r := rTelegram) (H1 := H0) (sz := 3) (i := i) (k := .i64) rfl hz hin
    have el := Sl.elem fT_len (by omega) (show Sl H2 z 3 xs.length (fcells fT xs) by rw [hxl]; exact hsl) (show i < xs.length by omega)
    have el4 := Sl.elem fT_len (by omega) ((show Sl H2 z 3 xs.length (fcells fT xs) by rw [hxl]; exact hsl).keep k4) (show i < xs.length by omega)
    obtain ⟨H5, u, e5, o5, kk5, n5⟩ : ∃ H5 u, vapp (H4.push (fcells fT [xs[i], xs[i]])) 3 40 w (.slice (some ⟨H4.nxt, 0, none⟩) 2 3) = some (u, H5) ∧ NewF fT 3 H2 H5 u (dbX (xs.take i) ++ [xs[i], xs[i]]) ∧ (∀ H, H.nxt ≤ H2.nxt → Keep H H4 → Keep H H5) ∧ H4.nxt ≤ H5.nxt := by
      obtain ⟨u, H5, h1, h2, h3, h4⟩ := NewF.many (bytes := 40) (ys := [xs[i], xs[i]]) fT_len (by omega) o4 (by rw [dbX_len, List.length_take]; simp; omega)
      exact ⟨H5, u, h1, h2, h3, h4⟩
    have hd : dbX (xs.take (i + 1)) = dbX (xs.take i) ++ [xs[i], xs[i]] := by
      rw [take_snoc' xs (by omega), dbX_app]; rfl
    simp only [fcells, List.map_cons, List.map_nil, List.flatten_cons, List.flatten_nil, List.append_nil, fT, List.cons_append, List.nil_append] at e5
    simp only [fT] at el4
    simp (maxSteps := 4000000) (disch := omega) only [Zq, evO, vbox, wr, Zeq, if_true, if_false, Nat.reduceEqDiff, Nat.reduceAdd, Nat.reduceLeDiff, Nat.reduceSub, and_self, and_true, true_and, reduceIte, reduceCtorEq, eq_self, implies_true, forall_const, false_implies, imp_self, decide_true, decide_false, fix_nil, fix_cons, t3, t5, t4, lz]
    refine G_tame rfl ?_
    simp (maxSteps := 4000000) (disch := omega) only [Zq, evO, vbox, wr, Zeq, if_true, if_false, Nat.reduceEqDiff, Nat.reduceAdd, Nat.reduceLeDiff, Nat.reduceSub, and_self, and_true, true_and, reduceIte, reduceCtorEq, eq_self, implies_true, forall_const, false_implies, imp_self, decide_true, decide_false, fix_nil, fix_cons, t3, t5, t4, ixz, el4, e5]
    exact ⟨hin, kk5 H2 (Nat.le_refl _) k4, by rw [hd]; exact o5⟩
  obtain rfl : i = ts.length := by omega
  rw [show xs.take ts.length = xs by rw [← hxl, List.take_length]] at o4
  have hx4 := hx.keep k4
  have hz4 := (rSlc rTelegram).rdk hz k4
  have hdb : (rSlc rTelegram).rd H4 [w] (dbl ts) := tel_of (by rw [dbl_len, ← hxl, ← dbX_len]; exact o4.sl fT_len) hx4.dbl
  simp (maxSteps := 4000000) (disch := omega) only [Zq, evO, vbox, wr, Zeq, if_true, if_false, Nat.reduceEqDiff, Nat.reduceAdd, Nat.reduceLeDiff, Nat.reduceSub, and_self, and_true, true_and, reduceIte, reduceCtorEq, eq_self, implies_true, forall_const, false_implies, imp_self, decide_true, decide_false, fix_nil, fix_cons, t3, t5, t4, lz]
  refine GO_call ((r_impl_Axles hz4 (by omega)).mono ?_)
  rintro _ H5 ⟨k5, rfl⟩
  have n5 := k5.nxt
  simp (maxSteps := 4000000) (disch := omega) only [Zq, evO, vbox, wr, Zeq, if_true, if_false, Nat.reduceEqDiff, Nat.reduceAdd, Nat.reduceLeDiff, Nat.reduceSub, and_self, and_true, true_and, reduceIte, reduceCtorEq, eq_self, implies_true, forall_const, false_implies, imp_self, decide_true, decide_false, fix_nil, fix_cons, t3, t5, t4]
  refine GO_call ((r_impl_Axles ((rSlc rTelegram).rdk hdb k5) (by rw [dbl_len]; omega)).mono ?_)
  rintro _ H6 ⟨k6, rfl⟩
  have n6 := k6.nxt
  rw [a1, a5]
  have hw1 : IntKind.i64.wrap (2 * (ov : Int)) = 2 * (ov : Int) := wrap64 (by omega) (by omega)
  have hw2 : IntKind.i64.wrap (2 * (ov : Int) + ts.length) = 2 * (ov : Int) + ts.length := wrap64 (by omega) (by omega)
  have hw3 : IntKind.i64.wrap (2 * (ov : Int) + ts.length - ov) = ((ov + ts.length : Nat) : Int) := by rw [wrap64 (by omega) (by omega)]; omega
  have hn1 : ¬ cn < -1 := by omega
  have hn2 : ¬ (ov : Int) < 0 := by omega
  simp (maxSteps := 4000000) (disch := omega) only [Zq, evO, vbox, wr, Zeq, if_true, if_false, Nat.reduceEqDiff, Nat.reduceAdd, Nat.reduceLeDiff, Nat.reduceSub, and_self, and_true, true_and, reduceIte, reduceCtorEq, eq_self, implies_true, forall_const, false_implies, imp_self, decide_true, decide_false, fix_nil, fix_cons, t3, t5, t4, lz, hw1, hw2, hw3, Zfi hn1, Zfi hn2]
  obtain ⟨q, hq⟩ : ∃ q : Int, q = (match ts.getLast? with | some t => (t.1 + 1) % 256 | none => 0) := ⟨_, rfl⟩
  obtain ⟨q0, q1, a7, a8⟩ := a6 q hq
  first | refine cK_cut (fun T HE => T 3 = z ∧ T 6 = .int .i64 cn ∧ T 7 = .int .i64 (ov : Int) ∧ T 10 = .int .i64 q ∧ HE = H6) ?_ ?_ | refine G_cut (fun T HE => T 3 = z ∧ T 6 = .int .i64 cn ∧ T 7 = .int .i64 (ov : Int) ∧ T 10 = .int .i64 q ∧ HE = H6) ?_ ?_ | refine GO_cut (fun T HE => T 3 = z ∧ T 6 = .int .i64 cn ∧ T 7 = .int .i64 (ov : Int) ∧ T 10 = .int .i64 q ∧ HE = H6) ?_ ?_
  · by_cases hpos : (0 : Int) < ts.length
    · have hi' : ts.length - 1 < ts.length := by omega
      have hgl : ts.getLast? = some ts[ts.length - 1] := by rw [List.getLast?_eq_getElem?, List.getElem?_eq_getElem hi']
      rw [hgl] at hq
      simp only [] at hq
      obtain ⟨wl, e3, e0, _⟩ := tel_el (hz4 : (rSlc rTelegram).rd H4 [z] ts) hi'
      obtain ⟨wl6, f3, f0, _⟩ := tel_el ((rSlc rTelegram).rdk hz4 (k5.trans k6)) hi'
      have ixl := fun H0 : Heap => slc_idx (r := rTelegram) (H1 := H0) (sz := 3) (i := ts.length - 1) (k := .i64) rfl hz hi'
      have fxl := fun (H0 : Heap) (o off : Nat) => slc_fad (r := rTelegram) (H1 := H0) (sz := 3) (i := ts.length - 1) (o := o) (off := off) rfl hz hi'
      have hw4 : IntKind.i64.wrap ((ts.length : Int) - 1) = ((ts.length - 1 : Nat) : Int) := by rw [wrap64 (by omega) (by omega)]; omega
      have hdr := hts _ (List.getElem_mem hi')
      have hdr1 := hdr.1
      have hdr2 := hdr.2.1
      have hw5 : IntKind.i64.wrap (ts[ts.length - 1].1 + 1) = ts[ts.length - 1].1 + 1 := wrap64 (by omega) (by omega)
      have hr : abin .rem (.int .i64 (ts[ts.length - 1].1 + 1)) (.int .i64 256) = some (.int .i64 q) := by
        rw [abin_rem (by decide), Int.tmod_eq_emod_of_nonneg (by omega), hq]
      simp (maxSteps := 4000000) (disch := omega) only [Zq, evO, vbox, wr, Zeq, if_true, if_false, Nat.reduceEqDiff, Nat.reduceAdd, Nat.reduceLeDiff, Nat.reduceSub, and_self, and_true, true_and, reduceIte, reduceCtorEq, eq_self, implies_true, forall_const, false_implies, imp_self, decide_true, decide_false, fix_nil, fix_cons, t3, t5, t4, Zfh hpos, lz, hw4, ixl, fxl, f0, hw5, hr]
    · have hnil : ts = [] := List.length_eq_zero_iff.1 (by omega)
      have hq0 : q = 0 := by rw [hq, hnil]; rfl
      simp (maxSteps := 4000000) (disch := omega) only [Zq, evO, vbox, wr, Zeq, if_true, if_false, Nat.reduceEqDiff, Nat.reduceAdd, Nat.reduceLeDiff, Nat.reduceSub, and_self, and_true, true_and, reduceIte, reduceCtorEq, eq_self, implies_true, forall_const, false_implies, imp_self, decide_true, decide_false, fix_nil, fix_cons, t3, t5, t4, Zfi hpos, hq0]
  rintro T HE ⟨t3, t6, t7, t10, rfl⟩
  have k26 := k4.trans (k5.trans k6)
  have lst : ∀ (kd : Int) (H6 : Heap), Keep H2 H6 → ∃ u H7 u2 H8, vapp (H6.push []) 3 40 (.slice (some ⟨H6.nxt, 0, none⟩) 0 3) z = some (u, H7) ∧ vapp (H7.push [.int .i64 q, .int .i64 kd, .slice none 0 0]) 3 40 u (.slice (some ⟨H7.nxt, 0, none⟩) 1 3) = some (u2, H8) ∧ Keep H6 H8 ∧ (rSlc rTelegram).rd H8 [u2] (ts ++ [(q, kd, [])]) := by
    intro kd H6 k6
    have o6 : NewF fT 3 H6 (H6.push []) (.slice (some ⟨H6.nxt, 0, none⟩) 0 3) [] := NewF.new (Keep.refl _)
    obtain ⟨u, H7, e7, o7, kk7, n7⟩ := NewF.app (bytes := 40) (ys := xs) fT_len (by omega) o6 ((show Sl H2 z 3 xs.length (fcells fT xs) by rw [hxl]; exact hsl).keep (k6.trans (Keep.push _ _))) (by simp; omega)
    obtain ⟨u2, H8, e8, o8, kk8, n8⟩ := NewF.one (bytes := 40) (y := ((q, kd, Value.slice none 0 0) : Tx)) fT_len (by omega) o7 (by simp; omega)
    have k68 := kk8 H6 (Nat.le_refl _) (kk7 H6 (Nat.le_refl _) (Keep.push _ _))
    refine ⟨u, H7, u2, H8, e7, e8, k68, ?_⟩
    have hs := o8.sl fT_len
    rw [List.nil_append] at hs
    refine tel_of (xs := xs ++ [(q, kd, Value.slice none 0 0)]) ?_ ((hx.keep (k6.trans k68)).app ⟨⟨rfl, rfl, ⟨_, [], rfl, ⟨by simp, .inl ⟨rfl, rfl⟩⟩, .nil⟩⟩, trivial⟩)
    rw [List.length_append, hxl] at hs
    rw [List.length_append]
    exact hs
  obtain ⟨u, H7, u2, H8, e7, e8, k8, hz8⟩ := lst 1 HE k26
  simp (maxSteps := 4000000) (disch := omega) only [Zq, evO, vbox, wr, Zeq, if_true, if_false, Nat.reduceEqDiff, Nat.reduceAdd, Nat.reduceLeDiff, Nat.reduceSub, and_self, and_true, true_and, reduceIte, reduceCtorEq, eq_self, implies_true, forall_const, false_implies, imp_self, decide_true, decide_false, fix_nil, fix_cons, t3, t5, t4, t6, t7, t10, e7, e8]
  refine GO_call ((r_impl_Axles hz8 (by simp; omega)).mono ?_)
  rintro _ H9 ⟨k9, rfl⟩
  have n9 := k9.nxt
  obtain ⟨u', H10, u2', H11, e10, e11, k11, hz11⟩ := lst 3 H9 (k26.trans (k8.trans k9))
  rw [a7]
  simp (maxSteps := 4000000) (disch := omega) only [Zq, evO, vbox, wr, Zeq, if_true, if_false, Nat.reduceEqDiff, Nat.reduceAdd, Nat.reduceLeDiff, Nat.reduceSub, and_self, and_true, true_and, reduceIte, reduceCtorEq, eq_self, implies_true, forall_const, false_implies, imp_self, decide_true, decide_false, fix_nil, fix_cons, t3, t5, t4, t6, t7, t10, e10, e11]
  refine GO_call ((r_impl_Axles hz11 (by simp; omega)).mono ?_)
  rintro _ H12 ⟨k12, rfl⟩
  have n12 := k12.nxt
  rw [show axR (ts ++ [(q, 3, [])]) = (0, (axR (ts ++ [(q, 3, [])])).2) from Prod.ext a8 rfl]
  simp (maxSteps := 4000000) (disch := omega) only [Zq, evO, vbox, wr, Zeq, if_true, if_false, Nat.reduceEqDiff, Nat.reduceAdd, Nat.reduceLeDiff, Nat.reduceSub, and_self, and_true, true_and, reduceIte, reduceCtorEq, eq_self, implies_true, forall_const, false_implies, imp_self, decide_true, decide_false, fix_nil, fix_cons, t3, t5, t4, t6, t7, t10]
  refine GO_call ((r_impl_Accept 255 0 H12).mono ?_)
  rintro _ H13 ⟨k13, rfl⟩
  have n13 := k13.nxt
  rw [show accR 255 0 = 0 by decide]
  simp (maxSteps := 4000000) (disch := omega) only [Zq, evO, vbox, wr, Zeq, if_true, if_false, Nat.reduceEqDiff, Nat.reduceAdd, Nat.reduceLeDiff, Nat.reduceSub, and_self, and_true, true_and, reduceIte, reduceCtorEq, eq_self, implies_true, forall_const, false_implies, imp_self, decide_true, decide_false, fix_nil, fix_cons, t3, t5, t4, t6, t7, t10]
  refine GO_call ((r_impl_Accept q q H13).mono ?_)
  rintro _ H14 ⟨k14, rfl⟩
  have n14 := k14.nxt
  rw [acc_same q0 q1]
  simp (maxSteps := 4000000) (disch := omega) only [Zq, evO, vbox, wr, Zeq, if_true, if_false, Nat.reduceEqDiff, Nat.reduceAdd, Nat.reduceLeDiff, Nat.reduceSub, and_self, and_true, true_and, reduceIte, reduceCtorEq, eq_self, implies_true, forall_const, false_implies, imp_self, decide_true, decide_false, fix_nil, fix_cons, t3, t5, t4, t6, t7, t10]
theorem go_laws_FnAxles (H : Heap) (xs : List Value) (h : GoodArgs Try.prog H Try.f4.params.toList xs) : ∃ H', CR Try.prog 4 xs H (.bool true) H' := by
  rw [Try.params4] at h
  obtain ⟨v, l, rfl, h1, h2⟩ := good_args_cons h
  obtain rfl := good_args_nil h2
  obtain ⟨_, g⟩ := goodV_one (by kernel_rfl) h1
  obtain ⟨w, code, e, hi, hm, hwf⟩ := good_ints (e := 5) (k := .u8) (by kernel_rfl) (by kernel_rfl) (by kernel_rfl) g
  simp at e
  subst e
  obtain ⟨r, H', hr, rfl⟩ := r_laws_FnAxles hi (fun x hx => wf8 (hwf x hx))
  exact ⟨H', hr⟩
end Go.Proofs.Ytiajbefljkikiaa.AX
