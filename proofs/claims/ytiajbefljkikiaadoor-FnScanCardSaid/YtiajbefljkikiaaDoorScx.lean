/- Scan, the program's and the reference's: both find what scR tells. No condition beyond each law's own; of the program: the functions' forms. -/
import Derived.Test.YtiajbefljkikiaaDoorScw
import Derived.Test.YtiajbefljkikiaaDoorRtel
namespace Go.Proofs.YtiajbefljkikiaaDoor.AX
open Go
set_option maxRecDepth 10000
set_option maxHeartbeats 4000000
set_option linter.unusedSimpArgs false
set_option linter.unusedVariables false
/-- A list under construction; old memory is as it was. -/
structure GL {α : Type} (r : Rep α) (H H1 : Heap) (w : Value) (xs : List α) (F : List Nat) : Prop where
  k : Keep H H1
  o : (rSlc r).own H1 [w] xs F
  nd : F.Nodup
  fr : ∀ a ∈ F, H.nxt ≤ a
section
variable {α : Type} {r : Rep α} {H H1 H2 : Heap} {w : Value} {xs : List α} {F : List Nat} {sz bytes : Nat}
theorem GL.keep (h : GL r H H1 w xs F) (k : Keep H1 H2) : GL r H H2 w xs F := ⟨h.k.trans k, (rSlc r).ownKeep h.o k, h.nd, h.fr⟩
theorem GL.app (h : GL r H H1 w xs F) (hz : r.sz = sz) (h0 : 0 < sz) {row : List Value} {y : α} {G : List Nat} (hy : r.own H1 row y G) (hG : G.Nodup) (hd : ∀ a ∈ G, H.nxt ≤ a ∧ a ∉ F) (hb : (xs.length + 1) * bytes ≤ 140737488355328) :
    ∃ u H2 F', vapp (H1.push row) sz bytes w (.slice (some ⟨H1.nxt, 0, none⟩) 1 sz) = some (u, H2) ∧ GL r H H2 u (xs ++ [y]) F' ∧ H1.nxt ≤ H2.nxt ∧ (∀ a, a < H1.nxt → a ∉ F → H2.get a = H1.get a) ∧ ∀ a ∈ F', a ∈ F ∨ a ∈ G ∨ H1.nxt ≤ a := by
  obtain ⟨u, H2, F', e, o, c, f, nd, _⟩ := own_app (bytes := bytes) hz h0 h.o hy h.nd hG (fun a ha => (hd a ha).2) hb
  have n := c.nxt
  have nH := h.k.nxt
  have old : ∀ a, a < H1.nxt → a ∉ F → H2.get a = H1.get a := fun a ha hm => c.get a ha hm
  refine ⟨u, H2, F', e, ⟨⟨by omega, fun a ha => ?_⟩, o, nd, fun a ha => ?_⟩, n, old, fun a ha => ?_⟩
  · rw [old a (by omega) (fun hh => by have := h.fr a hh; omega), h.k.get a ha]
  · rcases f a ha with h1 | h1 | h1
    · exact h.fr a h1
    · exact (hd a h1).1
    · omega
  · rcases f a ha with h1 | h1 | h1
    · exact .inl h1
    · exact .inr (.inl h1)
    · exact .inr (.inr h1.1)
theorem GL.new (hz : r.sz = sz) : GL r H (H.push []) (.slice (some ⟨H.nxt, 0, none⟩) 0 sz) [] [H.nxt] :=
  ⟨Keep.push _ _, own_new' hz, by simp, by simp⟩
theorem GL.lt (h : GL r H H1 w xs F) : ∀ a ∈ F, a < H1.nxt := (rSlc r).ownlt h.o
end
theorem Vs.len {H : Heap} {vs : List Value} {ps : List (List Int)} (h : Vs H vs ps) : vs.length = ps.length := All2.length h
theorem Vs.at {H : Heap} {vs : List Value} {ps : List (List Int)} {i : Nat} (h : Vs H vs ps) (hi : i < ps.length) : ∃ u, vs[i]? = some u ∧ Bts H u (ps[i]'hi) := by
  have h1 : vs[i]? = some (vs[i]'(by rw [h.len]; exact hi)) := List.getElem?_eq_getElem _
  obtain ⟨p, h2, h3⟩ := All2.get h i _ h1
  rw [List.getElem?_eq_getElem hi] at h2
  injection h2 with h2
  subst h2
  exact ⟨_, h1, h3⟩
/-- What a scan gives, as it lies. -/
def ScV (H H' : Heap) (r : Value) (D : List Tel × Int) : Prop := ∃ w F, r = .tuple #[w, .int .i64 D.2] ∧ (rSlc rTelegram).own H' [w] D.1 F ∧ Fresh H H' F
theorem foldl_take {α β : Type} {f : β → α → β} {l : List α} {b : β} {i : Nat} (h : i < l.length) : (l.take (i + 1)).foldl f b = f ((l.take i).foldl f b) l[i] := by
  rw [List.take_add_one, List.getElem?_eq_getElem h, List.foldl_append]
  rfl
theorem take_next {xs : List Int} {f i k : Nat} (h1 : 0 < k) (h2 : k ≤ i - f) (h3 : f ≤ i) (h4 : i ≤ xs.length) : (xs.drop f).take (i - f - k) ++ [xs.getD (i - k) 0] = (xs.drop f).take (i - f - (k - 1)) := by
  rw [show i - f - (k - 1) = (i - f - k) + 1 by omega, List.take_add_one, List.getElem?_drop, show f + (i - f - k) = i - k by omega, List.getElem?_eq_getElem (by omega), getD_get xs 0 (by omega)]
  rfl
theorem scS_nil (a : List Tel × Int) : scS a [] = a := if_pos rfl
theorem scS_yes {a : List Tel × Int} {p : List Int} (h : p ≠ []) (h2 : (decI ((126 : Int) :: p ++ [126])).2 = true) : scS a p = (a.1 ++ [(decI ((126 : Int) :: p ++ [126])).1], a.2) := by
  rw [scS, if_neg h, if_pos h2]
theorem scS_not {a : List Tel × Int} {p : List Int} (h : p ≠ []) (h2 : (decI ((126 : Int) :: p ++ [126])).2 = false) : scS a p = (a.1, a.2 + 1) := by
  rw [scS, if_neg h, if_neg (by rw [h2]; simp)]
theorem framed_isB {p : List Int} (h : ∀ x ∈ p, isB x) : ∀ x ∈ (126 : Int) :: p ++ [126], isB x := by
  intro x hx
  simp only [List.cons_append, List.mem_cons, List.mem_append, List.mem_singleton, List.not_mem_nil, or_false] at hx
  rcases hx with rfl | hx | rfl
  · exact ⟨by omega, by omega⟩
  · exact h x hx
  · exact ⟨by omega, by omega⟩
theorem spl_mem : ∀ {xs p : List Int}, p ∈ spl xs → p.length ≤ xs.length ∧ ∀ x ∈ p, x ∈ xs
  | [], p, h => by
    simp [spl] at h
    subst h
    exact ⟨Nat.le_refl _, fun x hx => by cases hx⟩
  | y :: ys, p, h => by
    rw [spl] at h
    split at h
    · rcases List.mem_cons.1 h with rfl | h
      · exact ⟨by simp, fun x hx => by cases hx⟩
      · obtain ⟨h1, h2⟩ := spl_mem h
        exact ⟨by rw [List.length_cons]; omega, fun x hx => List.mem_cons_of_mem _ (h2 x hx)⟩
    · split at h
      · rename_i q qs hq
        have hs := spl_ne ys
        rcases List.mem_cons.1 h with rfl | h
        · obtain ⟨h1, h2⟩ := spl_mem (xs := ys) (p := q) (by rw [hq]; exact List.mem_cons_self ..)
          refine ⟨by rw [List.length_cons, List.length_cons]; omega, fun x hx => ?_⟩
          rcases List.mem_cons.1 hx with rfl | hx
          · exact List.mem_cons_self ..
          · exact List.mem_cons_of_mem _ (h2 x hx)
        · obtain ⟨h1, h2⟩ := spl_mem (xs := ys) (p := p) (by rw [hq]; exact List.mem_cons_of_mem _ h)
          exact ⟨by rw [List.length_cons]; omega, fun x hx => List.mem_cons_of_mem _ (h2 x hx)⟩
      · rename_i hq
        exact absurd hq (spl_ne ys)
section
variable {H : Heap} {v w : Value} {xs : List Int}
theorem r_bytes_Split {B : Heap} (hB : Bts B v xs) (kB : Keep B H) (hw : Bts H w [126]) (hx : ∀ x ∈ xs, isB x) (hl : xs.length ≤ 3000) : Run Tryd.prog 32 [v, w] H fun r H' => Keep H H' ∧ ∃ vs, NewF fV 1 H H' r vs ∧ Vs B vs (spl xs) := by
  refine Run.intro c32 rfl ?_
  simp (maxSteps := 4000000) (disch := omega) only [Zq, evO, vbox, wr, Zeq, if_true, if_false, Nat.reduceEqDiff, Nat.reduceAdd, Nat.reduceLeDiff, Nat.reduceSub, and_self, and_true, true_and, reduceIte, reduceCtorEq, eq_self, implies_true, forall_const, false_implies, imp_self, decide_true, decide_false, x32]
  refine GO_call ((r_bytes_genSplit hB kB hw hx hl).mono ?_)
  rintro va H1 ⟨k1, vs, o1, h1⟩
  have s1 := Sl.noTup_ (o1.sl fV_len)
  simp (maxSteps := 4000000) (disch := omega) only [Zq, evO, vbox, wr, Zeq, if_true, if_false, Nat.reduceEqDiff, Nat.reduceAdd, Nat.reduceLeDiff, Nat.reduceSub, and_self, and_true, true_and, reduceIte, reduceCtorEq, eq_self, implies_true, forall_const, false_implies, imp_self, decide_true, decide_false, fix_nil, fix_cons, s1]
  exact ⟨k1, vs, o1, h1⟩
theorem r_impl_Scan (h : Bts H v xs) (hx : ∀ x ∈ xs, isB x) (hl : xs.length ≤ 4611686018427387904) : Run Tryd.prog 13 [v] H fun r H' => Keep H H' ∧ ScV H H' r (scR xs) := by
  have lv := fun H1 : Heap => IntsK.len_ (H1 := H1) h
  by_cases hl3 : (3000 : Int) < xs.length
  · refine Run.intro c13 rfl ?_
    simp (maxSteps := 4000000) (disch := omega) only [Zq, evO, vbox, wr, Zeq, if_true, if_false, Nat.reduceEqDiff, Nat.reduceAdd, Nat.reduceLeDiff, Nat.reduceSub, and_self, and_true, true_and, reduceIte, reduceCtorEq, eq_self, implies_true, forall_const, false_implies, imp_self, decide_true, decide_false, x13, lv, Zfh hl3]
    refine ⟨Keep.refl _, ?_⟩
    rw [scR, if_neg (by omega)]
    exact ⟨_, [], rfl, .inl ⟨rfl, rfl, rfl⟩, by simp, by simp⟩
  have hl3' : xs.length ≤ 3000 := by omega
  have hR : scR xs = (spl xs).foldl scS ([], 0) := if_pos hl3'
  rw [hR]
  have hsl := spl_len xs
  have hcl : xs.count 126 ≤ xs.length := List.count_le_length
  refine Run.intro c13 rfl ?_
  simp (maxSteps := 4000000) (disch := omega) only [Zq, evO, vbox, wr, Zeq, if_true, if_false, Nat.reduceEqDiff, Nat.reduceAdd, Nat.reduceLeDiff, Nat.reduceSub, and_self, and_true, true_and, reduceIte, reduceCtorEq, eq_self, implies_true, forall_const, false_implies, imp_self, decide_true, decide_false, x13, lv, Zfi hl3]
  have gl0 : GL rTelegram H (H.push []) (.slice (some ⟨H.nxt, 0, none⟩) 0 3) [] [H.nxt] := GL.new rfl
  have o1 : NewF (fZ .u8) 1 (H.push []) ((H.push []).push [Value.int .u8 126]) (.slice (some ⟨(H.push []).nxt, 0, none⟩) 1 1) [126] := NewF.lit (f := fZ .u8) (n := 1) (xs := [126]) (Keep.refl _)
  have n0 : (H.push []).nxt = H.nxt + 1 := Zbg
  rw [n0] at o1
  generalize hG : (H.push []).push [Value.int .u8 126] = H1 at o1 ⊢
  have k01 : Keep (H.push []) H1 := by rw [← hG]; exact Keep.push _ _
  have n1 : H1.nxt = H.nxt + 2 := by rw [← hG, Zbg, n0]
  clear hG
  have gl1 := gl0.keep k01
  have hw1 : Bts H1 (.slice (some ⟨H.nxt + 1, 0, none⟩) 1 1) [126] := o1.intsK
  refine GO_call ((r_bytes_Split h gl1.k hw1 hx hl3').mono ?_)
  rintro va H2 ⟨k2, vs, ⟨p, hp1, hp2, hva, hp4⟩, hvs1⟩
  have n2 := k2.nxt
  have gl2 := gl1.keep k2
  have hvl : vs.length = (spl xs).length := hvs1.len
  rw [fcV] at hp4
  rw [hvl] at hva
  have lva : ∀ H0 : Heap, vlen H0 va = some (.int .i64 (spl xs).length, H0) := fun H0 => Sl.len_ (sl_own hp2 hp4 (by rw [hvl, Nat.mul_one]) |> fun s => by rw [hva]; exact s)
  simp (maxSteps := 4000000) (disch := omega) only [Zq, evO, vbox, wr, Zeq, if_true, if_false, Nat.reduceEqDiff, Nat.reduceAdd, Nat.reduceLeDiff, Nat.reduceSub, and_self, and_true, true_and, reduceIte, reduceCtorEq, eq_self, implies_true, forall_const, false_implies, imp_self, decide_true, decide_false, fix_nil, fix_cons, lva]
  refine G_forF [17, 18] ((spl xs).length) (fun i T H3 => T 19 = .int .i64 (i : Int) ∧ ∃ (w : Value) (F : List Nat) (D : List Tel × Int), T 4 = w ∧ T 5 = .int .i64 D.2 ∧ D = ((spl xs).take i).foldl scS ([], 0) ∧ GL rTelegram H H3 w D.1 F ∧ H3.get p = some (.own vs) ∧ p < H3.nxt ∧ p ∉ F ∧ D.1.length ≤ i ∧ 0 ≤ D.2 ∧ D.2 ≤ i) 0 (Nat.zero_le _) ?_ ?_
  · simp (maxSteps := 4000000) (disch := omega) only [Zq, evO, vbox, wr, Zeq, if_true, if_false, Nat.reduceEqDiff, Nat.reduceAdd, Nat.reduceLeDiff, Nat.reduceSub, and_self, and_true, true_and, reduceIte, reduceCtorEq, eq_self, implies_true, forall_const, false_implies, imp_self, decide_true, decide_false, fix_nil, fix_cons]
    exact ⟨_, [H.nxt], ([], 0), rfl, rfl, rfl, gl2, hp4, hp2, by simp; omega, by simp, by simp, by simp⟩
  rintro i T H3 hi hT ⟨t19, w, F, D, t4, t5, hD, gl3, gp3, pl3, pF3, hDl, hD0, hDi⟩
  simp only [fix_nil, fix_cons, Zq, evO, vbox, wr, Zeq, if_true, if_false, Nat.reduceEqDiff, Nat.reduceAdd, Nat.reduceLeDiff, Nat.reduceSub, and_self, and_true, true_and, reduceIte, reduceCtorEq, eq_self, implies_true, forall_const, false_implies, imp_self, decide_true, decide_false] at hT
  obtain ⟨t17, t18⟩ := hT
  by_cases hin : i < (spl xs).length
  rotate_left
  · obtain rfl : i = (spl xs).length := by omega
    rw [List.take_length] at hD
    obtain ⟨x1, x2⟩ := slc_cell ((rSlc rTelegram).ownrd gl3.o)
    simp (maxSteps := 4000000) (disch := omega) only [Zq, evO, vbox, wr, Zeq, if_true, if_false, Nat.reduceEqDiff, Nat.reduceAdd, Nat.reduceLeDiff, Nat.reduceSub, and_self, and_true, true_and, reduceIte, reduceCtorEq, eq_self, implies_true, forall_const, false_implies, imp_self, decide_true, decide_false, fix_nil, fix_cons, t17, t18, t19, t4, t5, lva, x1, x2]
    exact ⟨gl3.k, w, F, by rw [← hD], by rw [← hD]; exact gl3.o, gl3.nd, fun a ha => ⟨gl3.fr a ha, gl3.lt a ha⟩⟩
  have hs3 : Sl H3 va 1 (spl xs).length vs := by rw [hva]; exact sl_own pl3 gp3 (by rw [hvl, Nat.mul_one])
  obtain ⟨u, hu1, hu2⟩ := hvs1.at hin
  have ixa := fun H0 : Heap => Sl.idx (H1 := H0) (k := .i64) (i := i) hs3 hin
  have lda : vld1 H3 (adr va i 1 0) = some (u, H3) := Sl.ld hs3 hin (by simpa using hu1)
  have gl3k := gl3.k
  have n3 := gl3k.nxt
  have hDs : scS D (spl xs)[i] = ((spl xs).take (i + 1)).foldl scS ([], 0) := by rw [foldl_take hin, hD]
  obtain ⟨q, hq⟩ : ∃ q, q = (spl xs)[i] := ⟨_, rfl⟩
  obtain ⟨hql, hqm⟩ := spl_mem (xs := xs) (p := q) (by rw [hq]; exact List.getElem_mem _)
  rw [← hq] at hDs hu2
  have hu3 := IntsK.keep hu2 gl3k
  have lu : ∀ H0 : Heap, vlen H0 u = some (.int .i64 q.length, H0) := fun H0 => IntsK.len_ (H1 := H0) hu3
  by_cases hq0 : (q.length : Int) = 0
  · have hqn : q = [] := List.eq_nil_of_length_eq_zero (by omega)
    simp (maxSteps := 4000000) (disch := omega) only [Zq, evO, vbox, wr, Zeq, if_true, if_false, Nat.reduceEqDiff, Nat.reduceAdd, Nat.reduceLeDiff, Nat.reduceSub, and_self, and_true, true_and, reduceIte, reduceCtorEq, eq_self, implies_true, forall_const, false_implies, imp_self, decide_true, decide_false, fix_nil, fix_cons, t17, t18, t19, t4, t5, lva, ixa, lda, lu, Zfl hq0]
    exact ⟨hin, w, F, D, rfl, rfl, by rw [← hDs, hqn, scS_nil], gl3, gp3, pl3, pF3, by omega, hD0, by omega⟩
  have hqn : q ≠ [] := fun e => hq0 (by rw [e]; rfl)
  have o4 : NewF (fZ .u8) 1 H3 (H3.push [Value.int .u8 126]) (.slice (some ⟨H3.nxt, 0, none⟩) 1 1) [126] := NewF.lit (f := fZ .u8) (n := 1) (xs := [126]) (Keep.refl _)
  obtain ⟨z4, H4, e4, o5, kk4, n4⟩ := NewF.app (bytes := 1) (ys := q) (fZ_len .u8) (by omega) o4 (IntsK.slF (IntsK.keep hu3 (Keep.push _ _))) (by simp only [List.length_singleton]; omega)
  have k34 : Keep H3 H4 := kk4 H3 (Nat.le_refl _) (Keep.push _ _)
  obtain ⟨z5, H5, e5, o6, kk5, n5⟩ := NewF.one (bytes := 1) (y := (126 : Int)) (fZ_len .u8) (by omega) o5 (by simp only [List.length_append, List.length_singleton]; omega)
  have k35 : Keep H3 H5 := kk5 H3 (Nat.le_refl _) k34
  have hz5 : Bts H5 z5 ((126 : Int) :: q ++ [126]) := o6.intsK
  simp only [fZ] at e5
  have gl5 := gl3.keep k35
  have n35 := k35.nxt
  have gp5 := (k35.get p pl3).trans gp3
  have hqB : ∀ x ∈ q, isB x := fun x hxq => hx x (hqm x hxq)
  simp (maxSteps := 4000000) (disch := omega) only [Zq, evO, vbox, wr, Zeq, if_true, if_false, Nat.reduceEqDiff, Nat.reduceAdd, Nat.reduceLeDiff, Nat.reduceSub, and_self, and_true, true_and, reduceIte, reduceCtorEq, eq_self, implies_true, forall_const, false_implies, imp_self, decide_true, decide_false, fix_nil, fix_cons, t17, t18, t19, t4, t5, lva, ixa, lda, lu, Zfm hq0, Zff, e4, e5]
  refine GO_call ((r_impl_Decode hz5 (by simp only [List.length_append, List.length_cons, List.length_nil]; omega) (framed_isB hqB)).mono ?_)
  rintro _ H6 ⟨k6, bv, G, rfl, ob, hG, hGf⟩
  have n6 := k6.nxt
  obtain ⟨E, hE⟩ : ∃ E, E = decI ((126 : Int) :: q ++ [126]) := ⟨_, rfl⟩
  rw [← hE] at ob ⊢
  have gl6 := gl5.keep k6
  have gp6 := (k6.get p (by omega)).trans gp5
  obtain ⟨x1, x2⟩ := slc_cell ((rSlc rByte).ownrd ob)
  simp (maxSteps := 4000000) (disch := omega) only [Zq, evO, vbox, wr, Zeq, if_true, if_false, Nat.reduceEqDiff, Nat.reduceAdd, Nat.reduceLeDiff, Nat.reduceSub, and_self, and_true, true_and, reduceIte, reduceCtorEq, eq_self, implies_true, forall_const, false_implies, imp_self, decide_true, decide_false, fix_nil, fix_cons, t17, t18, t19, t4, t5, x1, x2]
  generalize hG7 : (H6.push [.int .i64 0, .int .i64 0, .slice none 0 0]).set H6.nxt [.int .i64 E.1.1, .int .i64 E.1.2.1, bv] = H7
  have k7 : Keep H6 H7 := by rw [← hG7]; repeat' (first | exact Keep.refl _ | assumption | refine Keep.push' ?_ | refine Keep.set' ?_ ?_ | refine Keep.moved' ?_ ?_ | omega)
  have g7 : H7.get H6.nxt = some (.own [.int .i64 E.1.1, .int .i64 E.1.2.1, bv]) := by rw [← hG7, Zbi, if_pos rfl]
  have n7 : H7.nxt = H6.nxt + 1 := by rw [← hG7, Zbh, Zbg]
  have n6 := k6.nxt
  have gl7 := gl6.keep k7
  have gp7 := (k7.get p (by omega)).trans gp6
  have ob7 := (rSlc rByte).ownKeep ob k7
  have pl7 : p < H7.nxt := by omega
  have hne : p ∉ G := fun hm => by have := (hGf p hm).1; omega
  cases hE2 : E.2 with
  | false =>
    have hsc : scS D q = (D.1, D.2 + 1) := scS_not hqn (by rw [← hE]; exact hE2)
    have hwD : IntKind.i64.wrap (D.2 + 1) = D.2 + 1 := wrap64 (by omega) (by omega)
    simp (maxSteps := 4000000) (disch := omega) only [Zq, evO, vbox, wr, Zeq, if_true, if_false, Nat.reduceEqDiff, Nat.reduceAdd, Nat.reduceLeDiff, Nat.reduceSub, and_self, and_true, true_and, reduceIte, reduceCtorEq, eq_self, implies_true, forall_const, false_implies, imp_self, decide_true, decide_false, fix_nil, fix_cons, t17, t18, t19, t4, t5, g7, hwD, lva]
    exact ⟨hin, w, F, (D.1, D.2 + 1), rfl, rfl, by rw [← hDs, hsc], gl7, gp7, pl7, pF3, by simp only; omega, by simp only; omega, by simp only; omega⟩
  | true =>
    have hsc : scS D q = (D.1 ++ [E.1], D.2) := by rw [scS_yes hqn (by rw [← hE]; exact hE2), ← hE]
    obtain ⟨u8, H8, F8, e8, gl8, n8, old8, f8⟩ := gl7.app (bytes := 40) (sz := 3) (r := rTelegram) rfl (by omega) (row := [.int .i64 E.1.1, .int .i64 E.1.2.1, bv]) (y := E.1) (telegram_own' ob7) hG (fun a ha => ⟨by have := (hGf a ha).1; omega, fun hm => by have := gl3.lt a hm; have := (hGf a ha).1; omega⟩) (by omega)
    simp (maxSteps := 4000000) (disch := omega) only [Zq, evO, vbox, wr, Zeq, if_true, if_false, Nat.reduceEqDiff, Nat.reduceAdd, Nat.reduceLeDiff, Nat.reduceSub, and_self, and_true, true_and, reduceIte, reduceCtorEq, eq_self, implies_true, forall_const, false_implies, imp_self, decide_true, decide_false, fix_nil, fix_cons, t17, t18, t19, t4, t5, g7, Zff, e8, lva]
    exact ⟨hin, u8, F8, (D.1 ++ [E.1], D.2), rfl, rfl, by rw [← hDs, hsc], gl8, (old8 p pl7 pF3).trans gp7, by omega, fun hm => by
      rcases f8 p hm with h1 | h1 | h1
      · exact pF3 h1
      · exact hne h1
      · omega, by simp only [List.length_append, List.length_singleton]; omega, hD0, by simp only; omega⟩
theorem r_spec_Scan (h : Bts H v xs) (hx : ∀ x ∈ xs, isB x) (hl : xs.length ≤ 4611686018427387904) : Run Tryd.prog 16 [v] H fun r H' => Keep H H' ∧ ScV H H' r (scR xs) := by
  have lv := fun H1 : Heap => IntsK.len_ (H1 := H1) h
  by_cases hl3 : (3000 : Int) < xs.length
  · refine Run.intro c16 rfl ?_
    simp (maxSteps := 4000000) (disch := omega) only [Zq, evO, vbox, wr, Zeq, if_true, if_false, Nat.reduceEqDiff, Nat.reduceAdd, Nat.reduceLeDiff, Nat.reduceSub, and_self, and_true, true_and, reduceIte, reduceCtorEq, eq_self, implies_true, forall_const, false_implies, imp_self, decide_true, decide_false, x16, lv, Zfh hl3]
    refine ⟨Keep.refl _, ?_⟩
    rw [scR, if_neg (by omega)]
    exact ⟨_, [], rfl, .inl ⟨rfl, rfl, rfl⟩, by simp, by simp⟩
  have hl3' : xs.length ≤ 3000 := by omega
  have hR : scR xs = scL xs := if_pos hl3'
  rw [hR]
  refine Run.intro c16 rfl ?_
  simp (maxSteps := 4000000) (disch := omega) only [Zq, evO, vbox, wr, Zeq, if_true, if_false, Nat.reduceEqDiff, Nat.reduceAdd, Nat.reduceLeDiff, Nat.reduceSub, and_self, and_true, true_and, reduceIte, reduceCtorEq, eq_self, implies_true, forall_const, false_implies, imp_self, decide_true, decide_false, x16, lv, Zfi hl3]
  have gl1 : GL rTelegram H (H.push []) (.slice (some ⟨H.nxt, 0, none⟩) 0 3) [] [H.nxt] := GL.new rfl
  generalize hG : H.push [] = H1 at gl1 ⊢
  clear hG
  refine G_forF [0] ((xs.length + 1)) (fun i T H3 => T 7 = .int .i64 (i : Int) ∧ ∃ (w : Value) (F : List Nat) (D : List Tel × Int) (f : Nat), T 4 = w ∧ T 5 = .int .i64 D.2 ∧ T 6 = .int .i64 (f : Int) ∧ GL rTelegram H H3 w D.1 F ∧ f ≤ i ∧ (∀ j, f ≤ j → j < i → xs.getD j 0 ≠ 126) ∧ (splF xs f).foldl scS D = scL xs ∧ D.1.length ≤ i ∧ 0 ≤ D.2 ∧ D.2 ≤ i ∧ (i ≤ xs.length ∨ f = i)) 0 (Nat.zero_le _) ?_ ?_
  · simp (maxSteps := 4000000) (disch := omega) only [Zq, evO, vbox, wr, Zeq, if_true, if_false, Nat.reduceEqDiff, Nat.reduceAdd, Nat.reduceLeDiff, Nat.reduceSub, and_self, and_true, true_and, reduceIte, reduceCtorEq, eq_self, implies_true, forall_const, false_implies, imp_self, decide_true, decide_false, fix_nil, fix_cons]
    exact ⟨_, [H.nxt], ([], 0), 0, rfl, rfl, rfl, gl1, by omega, fun j h1 h2 => by omega, by rw [splF_zero]; rfl, by simp, by simp, by simp, by omega⟩
  rintro i T H3 hi hT ⟨t7, w, F, D, f, t4, t5, t6, gl3, hf, hno, hsc, hDl, hD0, hDi, hlast⟩
  simp only [fix_nil, fix_cons, Zq, evO, vbox, wr, Zeq, if_true, if_false, Nat.reduceEqDiff, Nat.reduceAdd, Nat.reduceLeDiff, Nat.reduceSub, and_self, and_true, true_and, reduceIte, reduceCtorEq, eq_self, implies_true, forall_const, false_implies, imp_self, decide_true, decide_false] at hT
  have t0 := hT
  have gl3k := gl3.k
  have n3 := gl3k.nxt
  have h3 := IntsK.keep h gl3k
  by_cases hin : i < xs.length + 1
  rotate_left
  · obtain rfl : i = xs.length + 1 := by omega
    obtain rfl : f = xs.length + 1 := by omega
    rw [splF_end (by omega)] at hsc
    obtain ⟨x1, x2⟩ := slc_cell ((rSlc rTelegram).ownrd gl3.o)
    simp (maxSteps := 4000000) (disch := omega) only [Zq, evO, vbox, wr, Zeq, if_true, if_false, Nat.reduceEqDiff, Nat.reduceAdd, Nat.reduceLeDiff, Nat.reduceSub, and_self, and_true, true_and, reduceIte, reduceCtorEq, eq_self, implies_true, forall_const, false_implies, imp_self, decide_true, decide_false, fix_nil, fix_cons, t0, t7, t4, t5, t6, lv, Zfk (by omega : ¬ ((xs.length + 1 : Nat) : Int) ≤ xs.length), x1, x2]
    exact ⟨gl3.k, w, F, by rw [← hsc]; rfl, by rw [← hsc]; exact gl3.o, gl3.nd, fun a ha => ⟨gl3.fr a ha, gl3.lt a ha⟩⟩
  have hwi : IntKind.i64.wrap ((i : Int) + 1) = ((i + 1 : Nat) : Int) := by rw [wrap64 (by omega) (by omega)]; omega
  by_cases hc : i < xs.length ∧ xs.getD i 0 ≠ 126
  · simp (maxSteps := 4000000) (disch := omega) only [Zq, evO, vbox, wr, Zeq, if_true, if_false, Nat.reduceEqDiff, Nat.reduceAdd, Nat.reduceLeDiff, Nat.reduceSub, and_self, and_true, true_and, reduceIte, reduceCtorEq, eq_self, implies_true, forall_const, false_implies, imp_self, decide_true, decide_false, fix_nil, fix_cons, t0, t7, t4, t5, t6, lv, Zfj (by omega : (i : Int) ≤ xs.length), Zfh (by omega : (i : Int) < xs.length), h3.idx hc.1, h3.ld hc.1, Zfm hc.2, hwi]
    exact ⟨hin, w, F, D, f, rfl, rfl, rfl, gl3, by omega, fun j h1 h2 => by
      by_cases hj : j = i
      · subst hj; exact hc.2
      · exact hno j h1 (by omega), hsc, by omega, hD0, by omega, by omega⟩
  have hhit : i = xs.length ∨ xs.getD i 0 = 126 := by
    by_cases he : i = xs.length
    · exact .inl he
    · exact .inr (Classical.byContradiction fun hh => hc ⟨by omega, hh⟩)
  have hst := splF_step hf (by omega) hno hhit
  rw [hst, List.foldl_cons] at hsc
  obtain ⟨q, hq⟩ : ∃ q, q = (xs.drop f).take (i - f) := ⟨_, rfl⟩
  rw [← hq] at hsc
  have hql : q.length = i - f := by rw [hq, List.length_take, List.length_drop]; omega
  have hqB : ∀ x ∈ q, isB x := fun x hxq => by rw [hq] at hxq; exact hx x (List.mem_of_mem_drop (List.mem_of_mem_take hxq))
  by_cases hfi : f = i
  · have hq0 : q = [] := List.eq_nil_of_length_eq_zero (by omega)
    rw [hq0, scS_nil] at hsc
    subst hfi
    by_cases hil : f < xs.length
    · rcases hhit with hh | hh
      · omega
      simp (maxSteps := 4000000) (disch := omega) only [Zq, evO, vbox, wr, Zeq, if_true, if_false, Nat.reduceEqDiff, Nat.reduceAdd, Nat.reduceLeDiff, Nat.reduceSub, and_self, and_true, true_and, reduceIte, reduceCtorEq, eq_self, implies_true, forall_const, false_implies, imp_self, decide_true, decide_false, fix_nil, fix_cons, t0, t7, t4, t5, t6, lv, Zfj (by omega : (f : Int) ≤ xs.length), Zfh (by omega : (f : Int) < xs.length), h3.idx hil, h3.ld hil, hh, Zfl (rfl : (126 : Int) = 126), Zfi (by omega : ¬ (f : Int) < f), hwi]
      exact ⟨hin, w, F, D, f + 1, rfl, rfl, rfl, gl3, by omega, fun j h1 h2 => by omega, hsc, by omega, hD0, by omega, by omega⟩
    · simp (maxSteps := 4000000) (disch := omega) only [Zq, evO, vbox, wr, Zeq, if_true, if_false, Nat.reduceEqDiff, Nat.reduceAdd, Nat.reduceLeDiff, Nat.reduceSub, and_self, and_true, true_and, reduceIte, reduceCtorEq, eq_self, implies_true, forall_const, false_implies, imp_self, decide_true, decide_false, fix_nil, fix_cons, t0, t7, t4, t5, t6, lv, Zfj (by omega : (f : Int) ≤ xs.length), Zfi (by omega : ¬ (f : Int) < xs.length), Zfi (by omega : ¬ (f : Int) < f), hwi]
      exact ⟨hin, w, F, D, f + 1, rfl, rfl, rfl, gl3, by omega, fun j h1 h2 => by omega, hsc, by omega, hD0, by omega, by omega⟩
  have hfi' : f < i := by omega
  have hqn : q ≠ [] := fun e => by rw [e] at hql; simp at hql; omega
  by_cases hil : i < xs.length
  · have hh : xs.getD i 0 = 126 := by rcases hhit with hh | hh; exact absurd hh (by omega); exact hh
    simp (maxSteps := 4000000) (disch := omega) only [Zq, evO, vbox, wr, Zeq, if_true, if_false, Nat.reduceEqDiff, Nat.reduceAdd, Nat.reduceLeDiff, Nat.reduceSub, and_self, and_true, true_and, reduceIte, reduceCtorEq, eq_self, implies_true, forall_const, false_implies, imp_self, decide_true, decide_false, fix_nil, fix_cons, t0, t7, t4, t5, t6, lv, Zfj (by omega : (i : Int) ≤ xs.length), Zfh (by omega : (i : Int) < xs.length), h3.idx hil, h3.ld hil, hh, Zfl (rfl : (126 : Int) = 126), Zfh (by omega : (f : Int) < i)]
    refine G_loopF [0, 4, 5, 7] ((i - f)) (fun k T H5 => T 9 = .int .i64 ((i - k : Nat) : Int) ∧ k ≤ i - f ∧ Keep H3 H5 ∧ ∃ z : Value, T 8 = z ∧ NewF (fZ .u8) 1 H3 H5 z ((126 : Int) :: (xs.drop f).take (i - f - k))) ?_ ?_
    · simp (maxSteps := 4000000) (disch := omega) only [Zq, evO, vbox, wr, Zeq, if_true, if_false, Nat.reduceEqDiff, Nat.reduceAdd, Nat.reduceLeDiff, Nat.reduceSub, and_self, and_true, true_and, reduceIte, reduceCtorEq, eq_self, implies_true, forall_const, false_implies, imp_self, decide_true, decide_false, fix_nil, fix_cons, t0, t7, t4, t5, t6]
      exact ⟨by rw [show i - (i - f) = f by omega], Keep.push _ _, _, rfl, by rw [Nat.sub_self]; exact NewF.lit (f := fZ .u8) (n := 1) (xs := [126]) (Keep.refl _)⟩
    rintro k T H5 hT ⟨t9, hk, k5, z, t8, o5⟩
    simp only [fix_nil, fix_cons, Zq, evO, vbox, wr, Zeq, if_true, if_false, Nat.reduceEqDiff, Nat.reduceAdd, Nat.reduceLeDiff, Nat.reduceSub, and_self, and_true, true_and, reduceIte, reduceCtorEq, eq_self, implies_true, forall_const, false_implies, imp_self, decide_true, decide_false, t0, t7, t4, t5, t6] at hT
    obtain ⟨t0, t4, t5, t7⟩ := hT
    by_cases hk0 : 0 < k
    · have h5 := h3.keep k5
      have hik : i - k < xs.length := by omega
      have hw9 : IntKind.i64.wrap (((i - k : Nat) : Int) + 1) = ((i - (k - 1) : Nat) : Int) := by rw [wrap64 (by omega) (by omega)]; omega
      obtain ⟨z6, H6, e6, o6, kk6, n6⟩ := NewF.one (bytes := 1) (y := xs.getD (i - k) 0) (fZ_len .u8) (by omega) o5 (by simp only [List.length_cons, List.length_take, List.length_drop]; omega)
      simp only [fZ] at e6
      rw [List.cons_append, take_next hk0 hk hf (by omega)] at o6
      have k6 := kk6 H3 (Nat.le_refl _) k5
      simp (maxSteps := 4000000) (disch := omega) only [Zq, evO, vbox, wr, Zeq, if_true, if_false, Nat.reduceEqDiff, Nat.reduceAdd, Nat.reduceLeDiff, Nat.reduceSub, and_self, and_true, true_and, reduceIte, reduceCtorEq, eq_self, implies_true, forall_const, false_implies, imp_self, decide_true, decide_false, fix_nil, fix_cons, t0, t7, t4, t5, t6, t9, t8, Zfh (by omega : ((i - k : Nat) : Int) < (i : Int)), h5.idx hik, h5.ld hik, Zff, e6, hw9]
      exact ⟨k - 1, by omega, rfl, by omega, k6, z6, rfl, o6⟩
    obtain rfl : k = 0 := by omega
    rw [Nat.sub_zero, ← hq] at o5
    have n5 := k5.nxt
    obtain ⟨z6, H6, e6, o6, kk6, n6⟩ := NewF.one (bytes := 1) (y := (126 : Int)) (fZ_len .u8) (by omega) o5 (by simp only [List.length_cons]; omega)
    simp only [fZ] at e6
    have k6 := kk6 H3 (Nat.le_refl _) k5
    have hz6 : Bts H6 z6 ((126 : Int) :: q ++ [126]) := o6.intsK
    have gl6 := gl3.keep k6
    simp (maxSteps := 4000000) (disch := omega) only [Zq, evO, vbox, wr, Zeq, if_true, if_false, Nat.reduceEqDiff, Nat.reduceAdd, Nat.reduceLeDiff, Nat.reduceSub, and_self, and_true, true_and, reduceIte, reduceCtorEq, eq_self, implies_true, forall_const, false_implies, imp_self, decide_true, decide_false, fix_nil, fix_cons, t0, t7, t4, t5, t6, t9, t8, Zfi (by omega : ¬ ((i - 0 : Nat) : Int) < (i : Int)), Zff, e6]
    refine GO_call ((r_spec_Decode hz6 (by simp only [List.length_append, List.length_cons, List.length_nil]; omega) (framed_isB hqB)).mono ?_)
    rintro _ H7 ⟨k7, bv, G, rfl, ob, hG, hGf⟩
    have n7 := k7.nxt
    rw [dec_same (framed_isB hqB)] at ob ⊢
    obtain ⟨E, hE⟩ : ∃ E, E = decI ((126 : Int) :: q ++ [126]) := ⟨_, rfl⟩
    rw [← hE] at ob ⊢
    have gl7 := gl6.keep k7
    obtain ⟨x1, x2⟩ := slc_cell ((rSlc rByte).ownrd ob)
    simp (maxSteps := 4000000) (disch := omega) only [Zq, evO, vbox, wr, Zeq, if_true, if_false, Nat.reduceEqDiff, Nat.reduceAdd, Nat.reduceLeDiff, Nat.reduceSub, and_self, and_true, true_and, reduceIte, reduceCtorEq, eq_self, implies_true, forall_const, false_implies, imp_self, decide_true, decide_false, fix_nil, fix_cons, t0, t7, t4, t5, t6, t9, t8, x1, x2]
    generalize hG8 : (H7.push [.int .i64 0, .int .i64 0, .slice none 0 0]).set H7.nxt [.int .i64 E.1.1, .int .i64 E.1.2.1, bv] = H8
    have k8 : Keep H7 H8 := by rw [← hG8]; repeat' (first | exact Keep.refl _ | assumption | refine Keep.push' ?_ | refine Keep.set' ?_ ?_ | refine Keep.moved' ?_ ?_ | omega)
    have g8 : H8.get H7.nxt = some (.own [.int .i64 E.1.1, .int .i64 E.1.2.1, bv]) := by rw [← hG8, Zbi, if_pos rfl]
    have n8 : H8.nxt = H7.nxt + 1 := by rw [← hG8, Zbh, Zbg]
    have gl8 := gl7.keep k8
    have ob8 := (rSlc rByte).ownKeep ob k8
    have n36 := k6.nxt
    cases hE2 : E.2 with
    | false =>
      have hs := scS_not (a := D) hqn (by rw [← hE]; exact hE2)
      have hwD : IntKind.i64.wrap (D.2 + 1) = D.2 + 1 := wrap64 (by omega) (by omega)
      simp (maxSteps := 4000000) (disch := omega) only [Zq, evO, vbox, wr, Zeq, if_true, if_false, Nat.reduceEqDiff, Nat.reduceAdd, Nat.reduceLeDiff, Nat.reduceSub, and_self, and_true, true_and, reduceIte, reduceCtorEq, eq_self, implies_true, forall_const, false_implies, imp_self, decide_true, decide_false, fix_nil, fix_cons, t0, t7, t4, t5, t6, t9, t8, g8, hwD, hwi]
      exact ⟨hin, w, F, (D.1, D.2 + 1), i + 1, rfl, rfl, rfl, gl8, by omega, fun j h1 h2 => by omega, by rw [← hs]; exact hsc, by simp only; omega, by simp only; omega, by simp only; omega, by omega⟩
    | true =>
      have hs := scS_yes (a := D) hqn (by rw [← hE]; exact hE2)
      rw [← hE] at hs
      obtain ⟨u9, H9, F9, e9, gl9, n9, old9, f9⟩ := gl8.app (bytes := 40) (sz := 3) (r := rTelegram) rfl (by omega) (row := [.int .i64 E.1.1, .int .i64 E.1.2.1, bv]) (y := E.1) (telegram_own' ob8) hG (fun a ha => ⟨by have := (hGf a ha).1; omega, fun hm => by have := gl3.lt a hm; have := (hGf a ha).1; omega⟩) (by omega)
      simp (maxSteps := 4000000) (disch := omega) only [Zq, evO, vbox, wr, Zeq, if_true, if_false, Nat.reduceEqDiff, Nat.reduceAdd, Nat.reduceLeDiff, Nat.reduceSub, and_self, and_true, true_and, reduceIte, reduceCtorEq, eq_self, implies_true, forall_const, false_implies, imp_self, decide_true, decide_false, fix_nil, fix_cons, t0, t7, t4, t5, t6, t9, t8, g8, Zff, e9, hwi]
      exact ⟨hin, u9, F9, (D.1 ++ [E.1], D.2), i + 1, rfl, rfl, rfl, gl9, by omega, fun j h1 h2 => by omega, by rw [← hs]; exact hsc, by simp only [List.length_append, List.length_singleton]; omega, hD0, by simp only; omega, by omega⟩
  · simp (maxSteps := 4000000) (disch := omega) only [Zq, evO, vbox, wr, Zeq, if_true, if_false, Nat.reduceEqDiff, Nat.reduceAdd, Nat.reduceLeDiff, Nat.reduceSub, and_self, and_true, true_and, reduceIte, reduceCtorEq, eq_self, implies_true, forall_const, false_implies, imp_self, decide_true, decide_false, fix_nil, fix_cons, t0, t7, t4, t5, t6, lv, Zfj (by omega : (i : Int) ≤ xs.length), Zfi (by omega : ¬ (i : Int) < xs.length), Zfh (by omega : (f : Int) < i)]
    refine G_loopF [0, 4, 5, 7] ((i - f)) (fun k T H5 => T 9 = .int .i64 ((i - k : Nat) : Int) ∧ k ≤ i - f ∧ Keep H3 H5 ∧ ∃ z : Value, T 8 = z ∧ NewF (fZ .u8) 1 H3 H5 z ((126 : Int) :: (xs.drop f).take (i - f - k))) ?_ ?_
    · simp (maxSteps := 4000000) (disch := omega) only [Zq, evO, vbox, wr, Zeq, if_true, if_false, Nat.reduceEqDiff, Nat.reduceAdd, Nat.reduceLeDiff, Nat.reduceSub, and_self, and_true, true_and, reduceIte, reduceCtorEq, eq_self, implies_true, forall_const, false_implies, imp_self, decide_true, decide_false, fix_nil, fix_cons, t0, t7, t4, t5, t6]
      exact ⟨by rw [show i - (i - f) = f by omega], Keep.push _ _, _, rfl, by rw [Nat.sub_self]; exact NewF.lit (f := fZ .u8) (n := 1) (xs := [126]) (Keep.refl _)⟩
    rintro k T H5 hT ⟨t9, hk, k5, z, t8, o5⟩
    simp only [fix_nil, fix_cons, Zq, evO, vbox, wr, Zeq, if_true, if_false, Nat.reduceEqDiff, Nat.reduceAdd, Nat.reduceLeDiff, Nat.reduceSub, and_self, and_true, true_and, reduceIte, reduceCtorEq, eq_self, implies_true, forall_const, false_implies, imp_self, decide_true, decide_false, t0, t7, t4, t5, t6] at hT
    obtain ⟨t0, t4, t5, t7⟩ := hT
    by_cases hk0 : 0 < k
    · have h5 := h3.keep k5
      have hik : i - k < xs.length := by omega
      have hw9 : IntKind.i64.wrap (((i - k : Nat) : Int) + 1) = ((i - (k - 1) : Nat) : Int) := by rw [wrap64 (by omega) (by omega)]; omega
      obtain ⟨z6, H6, e6, o6, kk6, n6⟩ := NewF.one (bytes := 1) (y := xs.getD (i - k) 0) (fZ_len .u8) (by omega) o5 (by simp only [List.length_cons, List.length_take, List.length_drop]; omega)
      simp only [fZ] at e6
      rw [List.cons_append, take_next hk0 hk hf (by omega)] at o6
      have k6 := kk6 H3 (Nat.le_refl _) k5
      simp (maxSteps := 4000000) (disch := omega) only [Zq, evO, vbox, wr, Zeq, if_true, if_false, Nat.reduceEqDiff, Nat.reduceAdd, Nat.reduceLeDiff, Nat.reduceSub, and_self, and_true, true_and, reduceIte, reduceCtorEq, eq_self, implies_true, forall_const, false_implies, imp_self, decide_true, decide_false, fix_nil, fix_cons, t0, t7, t4, t5, t6, t9, t8, Zfh (by omega : ((i - k : Nat) : Int) < (i : Int)), h5.idx hik, h5.ld hik, Zff, e6, hw9]
      exact ⟨k - 1, by omega, rfl, by omega, k6, z6, rfl, o6⟩
    obtain rfl : k = 0 := by omega
    rw [Nat.sub_zero, ← hq] at o5
    have n5 := k5.nxt
    obtain ⟨z6, H6, e6, o6, kk6, n6⟩ := NewF.one (bytes := 1) (y := (126 : Int)) (fZ_len .u8) (by omega) o5 (by simp only [List.length_cons]; omega)
    simp only [fZ] at e6
    have k6 := kk6 H3 (Nat.le_refl _) k5
    have hz6 : Bts H6 z6 ((126 : Int) :: q ++ [126]) := o6.intsK
    have gl6 := gl3.keep k6
    simp (maxSteps := 4000000) (disch := omega) only [Zq, evO, vbox, wr, Zeq, if_true, if_false, Nat.reduceEqDiff, Nat.reduceAdd, Nat.reduceLeDiff, Nat.reduceSub, and_self, and_true, true_and, reduceIte, reduceCtorEq, eq_self, implies_true, forall_const, false_implies, imp_self, decide_true, decide_false, fix_nil, fix_cons, t0, t7, t4, t5, t6, t9, t8, Zfi (by omega : ¬ ((i - 0 : Nat) : Int) < (i : Int)), Zff, e6]
    refine GO_call ((r_spec_Decode hz6 (by simp only [List.length_append, List.length_cons, List.length_nil]; omega) (framed_isB hqB)).mono ?_)
    rintro _ H7 ⟨k7, bv, G, rfl, ob, hG, hGf⟩
    have n7 := k7.nxt
    rw [dec_same (framed_isB hqB)] at ob ⊢
    obtain ⟨E, hE⟩ : ∃ E, E = decI ((126 : Int) :: q ++ [126]) := ⟨_, rfl⟩
    rw [← hE] at ob ⊢
    have gl7 := gl6.keep k7
    obtain ⟨x1, x2⟩ := slc_cell ((rSlc rByte).ownrd ob)
    simp (maxSteps := 4000000) (disch := omega) only [Zq, evO, vbox, wr, Zeq, if_true, if_false, Nat.reduceEqDiff, Nat.reduceAdd, Nat.reduceLeDiff, Nat.reduceSub, and_self, and_true, true_and, reduceIte, reduceCtorEq, eq_self, implies_true, forall_const, false_implies, imp_self, decide_true, decide_false, fix_nil, fix_cons, t0, t7, t4, t5, t6, t9, t8, x1, x2]
    generalize hG8 : (H7.push [.int .i64 0, .int .i64 0, .slice none 0 0]).set H7.nxt [.int .i64 E.1.1, .int .i64 E.1.2.1, bv] = H8
    have k8 : Keep H7 H8 := by rw [← hG8]; repeat' (first | exact Keep.refl _ | assumption | refine Keep.push' ?_ | refine Keep.set' ?_ ?_ | refine Keep.moved' ?_ ?_ | omega)
    have g8 : H8.get H7.nxt = some (.own [.int .i64 E.1.1, .int .i64 E.1.2.1, bv]) := by rw [← hG8, Zbi, if_pos rfl]
    have n8 : H8.nxt = H7.nxt + 1 := by rw [← hG8, Zbh, Zbg]
    have gl8 := gl7.keep k8
    have ob8 := (rSlc rByte).ownKeep ob k8
    have n36 := k6.nxt
    cases hE2 : E.2 with
    | false =>
      have hs := scS_not (a := D) hqn (by rw [← hE]; exact hE2)
      have hwD : IntKind.i64.wrap (D.2 + 1) = D.2 + 1 := wrap64 (by omega) (by omega)
      simp (maxSteps := 4000000) (disch := omega) only [Zq, evO, vbox, wr, Zeq, if_true, if_false, Nat.reduceEqDiff, Nat.reduceAdd, Nat.reduceLeDiff, Nat.reduceSub, and_self, and_true, true_and, reduceIte, reduceCtorEq, eq_self, implies_true, forall_const, false_implies, imp_self, decide_true, decide_false, fix_nil, fix_cons, t0, t7, t4, t5, t6, t9, t8, g8, hwD, hwi]
      exact ⟨hin, w, F, (D.1, D.2 + 1), i + 1, rfl, rfl, rfl, gl8, by omega, fun j h1 h2 => by omega, by rw [← hs]; exact hsc, by simp only; omega, by simp only; omega, by simp only; omega, by omega⟩
    | true =>
      have hs := scS_yes (a := D) hqn (by rw [← hE]; exact hE2)
      rw [← hE] at hs
      obtain ⟨u9, H9, F9, e9, gl9, n9, old9, f9⟩ := gl8.app (bytes := 40) (sz := 3) (r := rTelegram) rfl (by omega) (row := [.int .i64 E.1.1, .int .i64 E.1.2.1, bv]) (y := E.1) (telegram_own' ob8) hG (fun a ha => ⟨by have := (hGf a ha).1; omega, fun hm => by have := gl3.lt a hm; have := (hGf a ha).1; omega⟩) (by omega)
      simp (maxSteps := 4000000) (disch := omega) only [Zq, evO, vbox, wr, Zeq, if_true, if_false, Nat.reduceEqDiff, Nat.reduceAdd, Nat.reduceLeDiff, Nat.reduceSub, and_self, and_true, true_and, reduceIte, reduceCtorEq, eq_self, implies_true, forall_const, false_implies, imp_self, decide_true, decide_false, fix_nil, fix_cons, t0, t7, t4, t5, t6, t9, t8, g8, Zff, e9, hwi]
      exact ⟨hin, u9, F9, (D.1 ++ [E.1], D.2), i + 1, rfl, rfl, rfl, gl9, by omega, fun j h1 h2 => by omega, by rw [← hs]; exact hsc, by simp only [List.length_append, List.length_singleton]; omega, hD0, by simp only; omega, by omega⟩
end
end Go.Proofs.YtiajbefljkikiaaDoor.AX
