/- Sidings as they are drawn. No condition beyond each law's own; of the program: the functions' forms. -/
import Derived.Test.YtiajbefljkikiaaShp
import Derived.Test.YtiajbefljkikiaaGpd
import Derived.Test.YtiajbefljkikiaaXH
namespace Go.Proofs.Ytiajbefljkikiaa.AX
open Go
set_option maxRecDepth 10000
set_option maxHeartbeats 4000000
set_option linter.unusedSimpArgs false
set_option linter.unusedVariables false
/-- Wagons that rise, and the next one. -/
def WI (ws : List Int) (w : Int) : Prop := (∀ x ∈ ws, 1 ≤ x ∧ x < w) ∧ ws.Nodup ∧ 1 ≤ w ∧ w ≤ 50 + 9 * ws.length
theorem WI_app {ws : List Int} {w d : Int} (h : WI ws w) (h1 : 1 ≤ d) (h9 : d ≤ 9) : WI (ws ++ [w]) (w + d) := by
  obtain ⟨a1, a2, a3, a4⟩ := h
  refine ⟨fun x hx => ?_, List.nodup_append.2 ⟨a2, by simp, fun a ha b hb e => ?_⟩, by omega, by simp only [List.length_append, List.length_singleton]; omega⟩
  · rcases List.mem_append.1 hx with h | h
    · have := a1 x h; omega
    · simp at h; omega
  · have := a1 a ha; simp at hb; omega
def YI (room : List Int) (rows : List (List Int)) : Prop := room.length = rows.length ∧ ∀ i (hi : i < rows.length), (1 ≤ room.getD i 0 ∧ room.getD i 0 ≤ 9) ∧ (rows[i].length : Int) ≤ room.getD i 0
theorem YI_app {room : List Int} {rows : List (List Int)} {r : Int} {row : List Int} (h : YI room rows) (h1 : 1 ≤ r) (h9 : r ≤ 9) (hr : (row.length : Int) ≤ r) : YI (room ++ [r]) (rows ++ [row]) := by
  obtain ⟨a1, a2⟩ := h
  refine ⟨by simp [a1], fun i hi => ?_⟩
  rw [List.length_append, List.length_singleton] at hi
  by_cases e : i = rows.length
  · subst e
    have e1 : (room ++ [r]).getD rows.length 0 = r := by
      rw [List.getD_eq_getElem?_getD, ← a1, List.getElem?_append_right (Nat.le_refl _), Nat.sub_self]; rfl
    rw [e1, List.getElem_append_right (Nat.le_refl _)]
    simp
    omega
  · have e1 : (room ++ [r]).getD i 0 = room.getD i 0 := by
      rw [List.getD_eq_getElem?_getD, List.getElem?_append_left (by omega), List.getD_eq_getElem?_getD]
    rw [e1, List.getElem_append_left (by omega)]
    exact a2 i (by omega)
theorem flat_le {c : Nat} : ∀ {rows : List (List Int)}, (∀ r ∈ rows, r.length ≤ c) → rows.flatten.length ≤ c * rows.length
  | [], _ => by simp
  | r :: rs, h => by
    have h1 := h r (by simp)
    have h2 := flat_le (rows := rs) fun x hx => h x (by simp [hx])
    rw [List.flatten_cons, List.length_append, List.length_cons, Nat.mul_add]
    omega
theorem YI_flat {room : List Int} {rows : List (List Int)} (h : YI room rows) : rows.flatten.length ≤ 9 * rows.length := by
  refine flat_le fun r hr => ?_
  obtain ⟨i, hi, rfl⟩ := List.getElem_of_mem hr
  have := h.2 i hi
  omega
theorem YI_ok {room : List Int} {rows : List (List Int)} {w : Int} (h : YI room rows) (hw : WI rows.flatten w) (h1 : 1 ≤ rows.length) (h4 : rows.length ≤ 4) : yardOk room rows = true := by
  have hf := YI_flat h
  obtain ⟨a1, a2, a3, a4⟩ := hw
  refine yardOk_iff.2 ⟨inR_iff.2 (by omega), h.1, fun i hi => ?_, fun x hx => ?_, a2⟩
  · obtain ⟨b1, b2⟩ := h.2 i hi
    exact ⟨inR_iff.2 (by omega), b2⟩
  · have := a1 x hx
    exact inR_iff.2 (by omega)
/-- Sidings under construction in the box q. -/
structure YP (B : Heap) (v : Value) (code : List Int) (p : Nat) (H : Heap) (q : Nat) (H1 : Heap) (vu vr : Value) (room : List Int) (rows : List (List Int)) (Fu Fr : List Nat) : Prop where
  chg : Chg [p, q] H H1
  cur : Cur B v code H1 p
  pl : p < H.nxt
  ql : q < H.nxt
  pq : p ≠ q
  bq : B.nxt ≤ q
  g : H1.get q = some (.own [vu, vr])
  ou : (rSlc rInt).own H1 [vu] room Fu
  orr : (rSlc (rSlc rInt)).own H1 [vr] rows Fr
  nu : Fu.Nodup
  nr : Fr.Nodup
  fu : ∀ a ∈ Fu, H.nxt ≤ a ∧ a ∉ Fr
  fr : ∀ a ∈ Fr, H.nxt ≤ a
section
variable {B : Heap} {v : Value} {code : List Int} {p : Nat} {H : Heap} {q : Nat} {H1 H2 : Heap} {vu vr : Value} {room : List Int} {rows : List (List Int)} {Fu Fr : List Nat}
theorem YP.mv (h : YP B v code p H q H1 vu vr room rows Fu Fr) (c : Chg [p] H1 H2) (cu : Cur B v code H2 p) : YP B v code p H q H2 vu vr room rows Fu Fr := by
  have pl := h.pl
  have ql := h.ql
  have nH := h.chg.nxt
  refine ⟨⟨by have := c.nxt; omega, fun a ha hm => ?_⟩, cu, pl, ql, h.pq, h.bq, (c.get _ (by omega) (by simp; exact Ne.symm h.pq)).trans h.g, (rSlc rInt).ownChg h.ou c (fun a ha hm => by have := h.fu a ha; simp at hm; omega), (rSlc (rSlc rInt)).ownChg h.orr c (fun a ha hm => by have := h.fr a ha; simp at hm; omega), h.nu, h.nr, h.fu, h.fr⟩
  have hm' := hm
  simp only [List.mem_cons, List.not_mem_nil, or_false, not_or] at hm'
  rw [c.get a (by omega) (by simp; exact hm'.1), h.chg.get a ha hm]
theorem YP.keep (h : YP B v code p H q H1 vu vr room rows Fu Fr) (k : Keep H1 H2) : YP B v code p H q H2 vu vr room rows Fu Fr := h.mv k.chg (h.cur.chg k)
/-- A room more. -/
theorem YP.pt (h : YP B v code p H q H1 vu vr room rows Fu Fr) (z : Int) (hl : (room.length + 1) * 8 ≤ 140737488355328) :
    ∃ u H2 Fu', vapp (H1.push [.int .i64 z]) 1 8 vu (.slice (some ⟨H1.nxt, 0, none⟩) 1 1) = some (u, H2) ∧ H1.nxt ≤ H2.nxt ∧ H2.get q = some (.own [vu, vr]) ∧ (∀ a, a < H1.nxt → a ∉ Fu → H2.get a = H1.get a) ∧ vcells u = [u] ∧ noTup u = true ∧ (∀ a ∈ Fu', a ∈ Fu ∨ H1.nxt ≤ a) ∧ YP B v code p H q (H2.set q [u, vr]) u vr (room ++ [z]) rows Fu' Fr := by
  obtain ⟨u, H2, F', e, o, c, f, nd, _⟩ := own_app (bytes := 8) (r := rInt) (sz := 1) rfl (by omega) h.ou (row := [.int .i64 z]) (y := z) (G := []) ⟨rfl, rfl⟩ h.nu (by simp) (by simp) hl
  have n := c.nxt
  have ql := h.ql
  have pl := h.pl
  have pq := h.pq
  have nH := h.chg.nxt
  have bp := h.cur.2.1
  have bq := h.bq
  have old : ∀ a, a < H1.nxt → a ∉ Fu → H2.get a = H1.get a := fun a ha hm => c.get a ha hm
  have ltr := (rSlc (rSlc rInt)).ownlt h.orr
  have qF : q ∉ Fu := fun hm => by have := h.fu q hm; omega
  have f2 : ∀ a ∈ F', a ∈ Fu ∨ H1.nxt ≤ a := fun a ha => by
    rcases f a ha with h1 | h1 | h1
    · exact .inl h1
    · cases h1
    · exact .inr h1.1
  have fF' : ∀ a ∈ F', H.nxt ≤ a ∧ a ∉ Fr := fun a ha => by
    rcases f2 a ha with h1 | h1
    · exact h.fu a h1
    · exact ⟨by omega, fun hm => by have := ltr a hm; omega⟩
  obtain ⟨a1, a2⟩ := slc_cell ((rSlc rInt).ownrd o)
  have cu : Cur B v code (H2.set q [u, vr]) p := cur_ch (G := q :: Fu) h.cur (by rw [Zbh]; exact n) (fun a ha hm => by
    simp only [List.mem_cons, not_or] at hm
    rw [Zbi, if_neg hm.1, old a ha hm.2]) (fun a ha => by
    rcases List.mem_cons.1 ha with rfl | ha
    · omega
    · have := h.fu a ha; omega) (fun hm => by
    rcases List.mem_cons.1 hm with h1 | h1
    · omega
    · have := h.fu p h1; omega)
  refine ⟨u, H2, F', e, n, (old q (by omega) qF).trans h.g, old, a1, a2, f2, ⟨⟨by rw [Zbh]; omega, fun a ha hm => ?_⟩, cu, pl, ql, pq, bq, by rw [Zbi, if_pos rfl], (rSlc rInt).ownk o (by rw [Zbh]; omega) (fun a ha => by rw [Zbi, if_neg (by have := fF' a ha; omega)]), (rSlc (rSlc rInt)).ownk h.orr (by rw [Zbh]; omega) (fun a ha => ?_), nd, h.nr, fF', h.fr⟩⟩
  · have hm' := hm
    simp only [List.mem_cons, List.not_mem_nil, or_false, not_or] at hm'
    rw [Zbi, if_neg hm'.2, old a (by omega) (fun hh => by have := h.fu a hh; omega), h.chg.get a ha hm]
  · rw [Zbi, if_neg (by have := h.fr a ha; omega), old a (ltr a ha) (fun hh => (h.fu a hh).2 ha)]
/-- A row more. -/
theorem YP.row (h : YP B v code p H q H1 vu vr room rows Fu Fr) {wv : Value} {ws : List Int} {G : List Nat} (hy : (rSlc rInt).own H1 [wv] ws G) (hG : G.Nodup) (hd : ∀ a ∈ G, H.nxt ≤ a ∧ a ∉ Fu ∧ a ∉ Fr) (hl : (rows.length + 1) * 24 ≤ 140737488355328) :
    ∃ u H2, vapp (H1.push [wv]) 1 24 vr (.slice (some ⟨H1.nxt, 0, none⟩) 1 1) = some (u, H2) ∧ H1.nxt ≤ H2.nxt ∧ H2.get q = some (.own [vu, vr]) ∧ vcells u = [u] ∧ noTup u = true ∧ ∃ Fr', YP B v code p H q (H2.set q [vu, u]) vu u room (rows ++ [ws]) Fu Fr' := by
  obtain ⟨u, H2, F', e, o, c, f, nd, _⟩ := own_app (bytes := 24) (r := rSlc rInt) (sz := 1) rfl (by omega) h.orr (row := [wv]) (y := ws) (G := G) hy h.nr hG (fun a ha => (hd a ha).2.2) hl
  have n := c.nxt
  have ql := h.ql
  have pl := h.pl
  have pq := h.pq
  have nH := h.chg.nxt
  have bp := h.cur.2.1
  have bq := h.bq
  have old : ∀ a, a < H1.nxt → a ∉ Fr → H2.get a = H1.get a := fun a ha hm => c.get a ha hm
  have ltu := (rSlc rInt).ownlt h.ou
  have qF : q ∉ Fr := fun hm => by have := h.fr q hm; omega
  have fF' : ∀ a ∈ F', H.nxt ≤ a := fun a ha => by
    rcases f a ha with h1 | h1 | h1
    · exact h.fr a h1
    · exact (hd a h1).1
    · omega
  have fu' : ∀ a ∈ Fu, a ∉ F' := fun a ha hm => by
    rcases f a hm with h1 | h1 | h1
    · exact (h.fu a ha).2 h1
    · exact (hd a h1).2.1 ha
    · have := ltu a ha; omega
  obtain ⟨a1, a2⟩ := slc_cell ((rSlc (rSlc rInt)).ownrd o)
  have cu : Cur B v code (H2.set q [vu, u]) p := cur_ch (G := q :: Fr) h.cur (by rw [Zbh]; exact n) (fun a ha hm => by
    simp only [List.mem_cons, not_or] at hm
    rw [Zbi, if_neg hm.1, old a ha hm.2]) (fun a ha => by
    rcases List.mem_cons.1 ha with rfl | ha
    · omega
    · have := h.fr a ha; omega) (fun hm => by
    rcases List.mem_cons.1 hm with h1 | h1
    · omega
    · have := h.fr p h1; omega)
  refine ⟨u, H2, e, n, (old q (by omega) qF).trans h.g, a1, a2, F', ⟨⟨by rw [Zbh]; omega, fun a ha hm => ?_⟩, cu, pl, ql, pq, bq, by rw [Zbi, if_pos rfl], (rSlc rInt).ownk h.ou (by rw [Zbh]; omega) (fun a ha => ?_), (rSlc (rSlc rInt)).ownk o (by rw [Zbh]; omega) (fun a ha => by rw [Zbi, if_neg (by have := fF' a ha; omega)]), h.nu, nd, fun a ha => ⟨(h.fu a ha).1, fu' a ha⟩, fF'⟩⟩
  · have hm' := hm
    simp only [List.mem_cons, List.not_mem_nil, or_false, not_or] at hm'
    rw [Zbi, if_neg hm'.2, old a (by omega) (fun hh => by have := h.fr a hh; omega), h.chg.get a ha hm]
  · rw [Zbi, if_neg (by have := h.fu a ha; omega), old a (ltu a ha) (fun hh => (h.fu a ha).2 hh)]
end
section
variable {B : Heap} {v : Value} {code : List Int} {p : Nat} {H : Heap}
theorem r_spec_l18DrawRight (hb : Bts' B v code) (hl : code.length ≤ 1048576) (hc : ∀ x ∈ code, 0 ≤ x ∧ x ≤ 255) (c : Cur B v code H p) : Run Try.prog 83 [ptr p 0] H fun r H' => Chg [p] H H' ∧ Cur B v code H' p ∧ ∃ vu vr room rows F, r = .agg #[vu, vr] ∧ rSidings.own H' [vu, vr] (room, rows) F ∧ F.Nodup ∧ (∀ a ∈ F, H.nxt ≤ a) ∧ yardOk room rows = true ∧ rows.flatten.length ≤ 36 := by
  have pl := c.2.2.1
  have hBn := c.2.1
  refine Run.intro c83 rfl ?_
  simp (maxSteps := 4000000) (disch := omega) only [Zq, evO, vbox, wr, Zeq, if_true, if_false, Nat.reduceEqDiff, Nat.reduceAdd, Nat.reduceLeDiff, Nat.reduceSub, and_self, and_true, true_and, reduceIte, reduceCtorEq, eq_self, implies_true, forall_const, false_implies, imp_self, decide_true, decide_false, x83]
  generalize hG1 : ((H.push [.slice none 0 0, .slice none 0 0]).push [.slice none 0 0, .slice none 0 0]).set (H.nxt + 1) [.slice none 0 0, .slice none 0 0] = H1
  have k1 : Keep H H1 := by rw [← hG1]; repeat' (first | exact Keep.refl _ | assumption | refine Keep.push' ?_ | refine Keep.set' ?_ ?_ | refine Keep.moved' ?_ ?_ | omega)
  have n1 : H1.nxt = H.nxt + 2 := by rw [← hG1]; simp only [Zbh, Zbg]
  have g1 : H1.get H.nxt = some (.own [.slice none 0 0, .slice none 0 0]) := by rw [← hG1, Zbi, if_neg (by omega), push_get', if_neg (by rw [Zbg]; omega), push_get', if_pos rfl]
  have hq1 : H1.get (H.nxt + 1) = some (.own [.slice none 0 0, .slice none 0 0]) := by rw [← hG1, Zbi, if_pos rfl]
  clear hG1
  obtain ⟨q, hq⟩ : ∃ q, q = H.nxt + 1 := ⟨_, rfl⟩
  rw [← hq] at hq1 ⊢
  have yp1 : YP B v code p H1 q H1 (.slice none 0 0) (.slice none 0 0) [] [] [] [] := ⟨Chg.refl _ _, c.chg k1, by omega, by omega, by omega, by omega, hq1, .inl ⟨rfl, rfl, rfl⟩, .inl ⟨rfl, rfl, rfl⟩, by simp, by simp, by simp, by simp⟩
  refine GO_call ((r_spec_l01Below (n := 50) hb hl hc yp1.cur (by omega) (by omega)).mono ?_)
  rintro _ H2 ⟨c2, u2, z2, rfl, hz2⟩
  have yp2 := yp1.mv c2 u2
  have hw0 : IntKind.i64.wrap (1 + (z2 : Int)) = ((1 + z2 : Nat) : Int) := by rw [wrap64 (by omega) (by omega)]; omega
  simp (maxSteps := 4000000) (disch := omega) only [Zq, evO, vbox, wr, Zeq, if_true, if_false, Nat.reduceEqDiff, Nat.reduceAdd, Nat.reduceLeDiff, Nat.reduceSub, and_self, and_true, true_and, reduceIte, reduceCtorEq, eq_self, implies_true, forall_const, false_implies, imp_self, decide_true, decide_false, fix_nil, fix_cons, g1, hw0]
  refine GO_call ((r_spec_l01Below (n := 4) hb hl hc u2 (by omega) (by omega)).mono ?_)
  rintro _ H3 ⟨c3, u3, z3, rfl, hz3⟩
  have yp3 := yp2.mv c3 u3
  have hw1 : IntKind.i64.wrap (1 + (z3 : Int)) = ((1 + z3 : Nat) : Int) := by rw [wrap64 (by omega) (by omega)]; omega
  simp (maxSteps := 4000000) (disch := omega) only [Zq, evO, vbox, wr, Zeq, if_true, if_false, Nat.reduceEqDiff, Nat.reduceAdd, Nat.reduceLeDiff, Nat.reduceSub, and_self, and_true, true_and, reduceIte, reduceCtorEq, eq_self, implies_true, forall_const, false_implies, imp_self, decide_true, decide_false, fix_nil, fix_cons, g1, hw1]
  refine G_loopF [0, 2, 3] ((1 + z3)) (fun j T H4 => T 5 = .int .i64 (j : Int) ∧ ∃ (w : Nat) (vu vr : Value) (room : List Int) (rows : List (List Int)) (Fu Fr : List Nat), T 4 = .int .i64 (w : Int) ∧ YP B v code p H1 q H4 vu vr room rows Fu Fr ∧ YI room rows ∧ WI rows.flatten (w : Int) ∧ rows.length + j = 1 + z3) ?_ ?_
  · simp (maxSteps := 4000000) (disch := omega) only [Zq, evO, vbox, wr, Zeq, if_true, if_false, Nat.reduceEqDiff, Nat.reduceAdd, Nat.reduceLeDiff, Nat.reduceSub, and_self, and_true, true_and, reduceIte, reduceCtorEq, eq_self, implies_true, forall_const, false_implies, imp_self, decide_true, decide_false, fix_nil, fix_cons, g1]
    exact ⟨1 + z2, _, _, [], [], [], [], rfl, yp3, ⟨rfl, fun i hi => by simp at hi⟩, ⟨by simp, by simp, by omega, by simp; omega⟩, by simp⟩
  rintro j T H4 hT ⟨t5, w, vu, vr, room, rows, Fu, Fr, t4, yp4, yi, wi, hlen⟩
  simp only [fix_nil, fix_cons, Zq, evO, vbox, wr, Zeq, if_true, if_false, Nat.reduceEqDiff, Nat.reduceAdd, Nat.reduceLeDiff, Nat.reduceSub, and_self, and_true, true_and, reduceIte, reduceCtorEq, eq_self, implies_true, forall_const, false_implies, imp_self, decide_true, decide_false] at hT
  obtain ⟨t0, t2, t3⟩ := hT
  have g4 := yp4.g
  have n4 := yp4.chg.nxt
  by_cases hj : (0 : Int) < j
  rotate_left
  · have g4n := (yp4.chg.get H.nxt (by omega) (by simp; omega)).trans g1
    obtain ⟨x1, x2⟩ := slc_cell ((rSlc rInt).ownrd yp4.ou)
    obtain ⟨y1, y2⟩ := slc_cell ((rSlc (rSlc rInt)).ownrd yp4.orr)
    simp (maxSteps := 4000000) (disch := omega) only [Zq, evO, vbox, wr, Zeq, if_true, if_false, Nat.reduceEqDiff, Nat.reduceAdd, Nat.reduceLeDiff, Nat.reduceSub, and_self, and_true, true_and, reduceIte, reduceCtorEq, eq_self, implies_true, forall_const, false_implies, imp_self, decide_true, decide_false, fix_nil, fix_cons, g1, t0, t2, t3, t5, t4, g4, g4n, Zfi hj, x1, x2, y1, y2]
    have fu := yp4.fu
    have fr := yp4.fr
    refine ⟨⟨by rw [Zbh]; omega, fun x hx hm => ?_⟩, cur_ch (G := [H.nxt]) yp4.cur (by rw [Zbh]; exact Nat.le_refl _) (fun x hx hm => by rw [Zbi, if_neg (by simpa using hm)]) (fun x hx => by simp at hx; omega) (by simp; omega), vu, vr, room, rows, Fu ++ Fr, rfl, sidings_own' ((rSlc rInt).ownk yp4.ou (by rw [Zbh]; exact Nat.le_refl _) (fun x hx => by rw [Zbi, if_neg (by have := fu x hx; omega)])) ((rSlc (rSlc rInt)).ownk yp4.orr (by rw [Zbh]; exact Nat.le_refl _) (fun x hx => by rw [Zbi, if_neg (by have := fr x hx; omega)])), List.nodup_append.2 ⟨yp4.nu, yp4.nr, fun a ha b hb e => (fu a ha).2 (e ▸ hb)⟩, fun a ha => ?_, YI_ok yi wi (by omega) (by omega), by have := YI_flat yi; omega⟩
    · rw [Zbi, if_neg (by omega), yp4.chg.get x (by omega) (by simp at hm ⊢; omega), k1.get x hx]
    · rcases List.mem_append.1 ha with h | h
      · have := fu a h; omega
      · have := fr a h; omega
  simp (maxSteps := 4000000) (disch := omega) only [Zq, evO, vbox, wr, Zeq, if_true, if_false, Nat.reduceEqDiff, Nat.reduceAdd, Nat.reduceLeDiff, Nat.reduceSub, and_self, and_true, true_and, reduceIte, reduceCtorEq, eq_self, implies_true, forall_const, false_implies, imp_self, decide_true, decide_false, fix_nil, fix_cons, g1, t0, t2, t3, t5, t4, g4, Zfh hj]
  refine GO_call ((r_spec_l01Below (n := 9) hb hl hc yp4.cur (by omega) (by omega)).mono ?_)
  rintro _ H5 ⟨c5, u5, z5, rfl, hz5⟩
  have yp5 := yp4.mv c5 u5
  have hw2 : IntKind.i64.wrap (1 + (z5 : Int)) = ((1 + z5 : Nat) : Int) := by rw [wrap64 (by omega) (by omega)]; omega
  have hw3 : IntKind.i64.wrap (((1 + z5 : Nat) : Int) + 1) = ((1 + (z5 + 1) : Nat) : Int) := by rw [wrap64 (by omega) (by omega)]; omega
  simp (maxSteps := 4000000) (disch := omega) only [Zq, evO, vbox, wr, Zeq, if_true, if_false, Nat.reduceEqDiff, Nat.reduceAdd, Nat.reduceLeDiff, Nat.reduceSub, and_self, and_true, true_and, reduceIte, reduceCtorEq, eq_self, implies_true, forall_const, false_implies, imp_self, decide_true, decide_false, fix_nil, fix_cons, g1, t0, t2, t3, t5, t4, g4, hw2, hw3]
  have gp5 := GP.new (r := rInt) (sz := 1) u5 rfl
  generalize hG6 : H5.push [] = H6 at gp5
  refine GO_call ((r_spec_l01Below (n := 1 + (z5 + 1)) hb hl hc gp5.cur (by omega) (by omega)).mono ?_)
  rintro _ H7 ⟨c7, u7, z7, rfl, hz7⟩
  have gp7 := gp5.mv c7 u7
  simp (maxSteps := 4000000) (disch := omega) only [Zq, evO, vbox, wr, Zeq, if_true, if_false, Nat.reduceEqDiff, Nat.reduceAdd, Nat.reduceLeDiff, Nat.reduceSub, and_self, and_true, true_and, reduceIte, reduceCtorEq, eq_self, implies_true, forall_const, false_implies, imp_self, decide_true, decide_false, fix_nil, fix_cons, g1, t0, t2, t3, t5, t4, g4]
  refine G_loopF [0, 2, 3, 5, 6] (z7) (fun k T H8 => T 8 = .int .i64 (k : Int) ∧ ∃ (w : Nat) (wv : Value) (ws : List Int) (F : List Nat), T 4 = .int .i64 (w : Int) ∧ T 7 = wv ∧ GP rInt B v code p H5 H8 wv ws F ∧ WI (rows.flatten ++ ws) (w : Int) ∧ ws.length + k = z7) ?_ ?_
  · simp (maxSteps := 4000000) (disch := omega) only [Zq, evO, vbox, wr, Zeq, if_true, if_false, Nat.reduceEqDiff, Nat.reduceAdd, Nat.reduceLeDiff, Nat.reduceSub, and_self, and_true, true_and, reduceIte, reduceCtorEq, eq_self, implies_true, forall_const, false_implies, imp_self, decide_true, decide_false, fix_nil, fix_cons, g1, t0, t2, t3, t5, t4, g4]
    exact ⟨w, _, [], _, rfl, rfl, gp7, by rw [List.append_nil]; exact wi, by simp⟩
  have hfl := YI_flat yi
  rintro k T H8 hT ⟨t8, w2, wv, ws, F, t4, t7, gp8, wi8, hlen8⟩
  simp only [fix_nil, fix_cons, Zq, evO, vbox, wr, Zeq, if_true, if_false, Nat.reduceEqDiff, Nat.reduceAdd, Nat.reduceLeDiff, Nat.reduceSub, and_self, and_true, true_and, reduceIte, reduceCtorEq, eq_self, implies_true, forall_const, false_implies, imp_self, decide_true, decide_false, t0, t2, t3, t5, t4] at hT
  obtain ⟨t0, t2, t3, t5, t6⟩ := hT
  by_cases hk : (0 : Int) < k
  · simp (maxSteps := 4000000) (disch := omega) only [Zq, evO, vbox, wr, Zeq, if_true, if_false, Nat.reduceEqDiff, Nat.reduceAdd, Nat.reduceLeDiff, Nat.reduceSub, and_self, and_true, true_and, reduceIte, reduceCtorEq, eq_self, implies_true, forall_const, false_implies, imp_self, decide_true, decide_false, fix_nil, fix_cons, g1, t0, t2, t3, t5, t4, g4, t6, t8, t7, Zfh hk]
    obtain ⟨u, H9, F9, e9, gp9, n9, old9⟩ := gp8.app (sz := 1) (bytes := 8) rfl (by omega) (row := [.int .i64 (w2 : Int)]) (y := (w2 : Int)) (G := []) ⟨rfl, rfl⟩ (by simp) (by simp) (by omega)
    have wb := wi8.2.2.2
    rw [List.length_append] at wb
    have hw4 : IntKind.i64.wrap ((w2 : Int) + 1) = ((w2 + 1 : Nat) : Int) := by rw [wrap64 (by omega) (by omega)]; omega
    simp (maxSteps := 4000000) (disch := omega) only [Zq, evO, vbox, wr, Zeq, if_true, if_false, Nat.reduceEqDiff, Nat.reduceAdd, Nat.reduceLeDiff, Nat.reduceSub, and_self, and_true, true_and, reduceIte, reduceCtorEq, eq_self, implies_true, forall_const, false_implies, imp_self, decide_true, decide_false, fix_nil, fix_cons, g1, t0, t2, t3, t5, t4, g4, t6, t8, t7, e9, hw4]
    refine GO_call ((r_spec_l01Below (n := 9) hb hl hc gp9.cur (by omega) (by omega)).mono ?_)
    rintro _ H10 ⟨c10, u10, z10, rfl, hz10⟩
    have gp10 := gp9.mv c10 u10
    have hw5 : IntKind.i64.wrap (((w2 + 1 : Nat) : Int) + z10) = ((w2 + (1 + z10) : Nat) : Int) := by rw [wrap64 (by omega) (by omega)]; omega
    have hw6 : IntKind.i64.wrap ((k : Int) - 1) = ((k - 1 : Nat) : Int) := by rw [wrap64 (by omega) (by omega)]; omega
    simp (maxSteps := 4000000) (disch := omega) only [Zq, evO, vbox, wr, Zeq, if_true, if_false, Nat.reduceEqDiff, Nat.reduceAdd, Nat.reduceLeDiff, Nat.reduceSub, and_self, and_true, true_and, reduceIte, reduceCtorEq, eq_self, implies_true, forall_const, false_implies, imp_self, decide_true, decide_false, fix_nil, fix_cons, g1, t0, t2, t3, t5, t4, g4, t6, t8, t7, hw5, hw6]
    refine ⟨k - 1, by omega, rfl, w2 + (1 + z10), u, ws ++ [(w2 : Int)], F9, rfl, rfl, gp10, ?_, by simp; omega⟩
    have := WI_app wi8 (d := 1 + (z10 : Int)) (by omega) (by omega)
    rw [List.append_assoc] at this
    have e : ((w2 + (1 + z10) : Nat) : Int) = (w2 : Int) + (1 + (z10 : Int)) := by omega
    rw [e]; exact this
  have yp8 := yp5.mv gp8.chg gp8.cur
  have g8 := yp8.g
  have yl : room.length ≤ 5 ∧ rows.length ≤ 5 := by have := yi.1; omega
  obtain ⟨u, H9, Fu9, e9, n9, g9, old9, x1, x2, f9, yp9⟩ := yp8.pt ((1 + z5 : Nat) : Int) (by omega)
  have ltF := (rSlc rInt).ownlt gp8.o
  have lt5u := (rSlc rInt).ownlt yp5.ou
  have lt5r := (rSlc (rSlc rInt)).ownlt yp5.orr
  have frF := gp8.fr
  have n5 := yp5.chg.nxt
  have q5 := yp5.ql
  have hdF : ∀ a ∈ F, H1.nxt ≤ a ∧ a ∉ Fu9 ∧ a ∉ Fr := fun a ha => by
    have h1 := frF a ha
    have h2 := ltF a ha
    refine ⟨by omega, fun hm => ?_, fun hm => by have := lt5r a hm; omega⟩
    rcases f9 a hm with h | h
    · have := lt5u a h; omega
    · omega
  have o9 : (rSlc rInt).own (H9.set q [u, vr]) [wv] ws F := (rSlc rInt).ownk gp8.o (by rw [Zbh]; exact n9) (fun a ha => by
    have h1 := frF a ha
    rw [Zbi, if_neg (by omega), old9 a (ltF a ha) (fun hm => by have := lt5u a hm; omega)])
  obtain ⟨u2, H10, e10, n10, g10, y1, y2, Fr10, yp10⟩ := yp9.row o9 gp8.nd hdF (by omega)
  obtain ⟨z1, z2'⟩ := slc_cell ((rSlc rInt).ownrd gp8.o)
  have g9s : (H9.set q [u, vr]).get q = some (.own [u, vr]) := yp9.g
  have hw6 : IntKind.i64.wrap ((j : Int) - 1) = ((j - 1 : Nat) : Int) := by rw [wrap64 (by omega) (by omega)]; omega
  simp (maxSteps := 4000000) (disch := omega) only [Zq, evO, vbox, wr, Zeq, if_true, if_false, Nat.reduceEqDiff, Nat.reduceAdd, Nat.reduceLeDiff, Nat.reduceSub, and_self, and_true, true_and, reduceIte, reduceCtorEq, eq_self, implies_true, forall_const, false_implies, imp_self, decide_true, decide_false, fix_nil, fix_cons, g1, t0, t2, t3, t5, t4, g4, t6, t8, t7, g8, g9, g10, g9s, Zfi hk, e9, x1, x2, g9s, z1, z2']
  rw [Zbh] at e10
  simp (maxSteps := 4000000) (disch := omega) only [Zq, evO, vbox, wr, Zeq, if_true, if_false, Nat.reduceEqDiff, Nat.reduceAdd, Nat.reduceLeDiff, Nat.reduceSub, and_self, and_true, true_and, reduceIte, reduceCtorEq, eq_self, implies_true, forall_const, false_implies, imp_self, decide_true, decide_false, fix_nil, fix_cons, g1, t0, t2, t3, t5, t4, g4, t6, t8, t7, g8, g9, g10, g9s, e10, y1, y2, hw6]
  refine ⟨j - 1, by omega, rfl, w2, u, u2, _, _, Fu9, Fr10, rfl, yp10, YI_app yi (by omega) (by omega) (by omega), ?_, by simp; omega⟩
  rw [List.flatten_append]
  simpa using wi8
end
end Go.Proofs.Ytiajbefljkikiaa.AX
