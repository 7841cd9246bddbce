/- Sidings: a shunt. No condition beyond each law's own; of the program: the functions' forms. -/
import Derived.Test.YtiajbefljkikiaaYd3
namespace Go.Proofs.Ytiajbefljkikiaa.AX
open Go
set_option maxRecDepth 10000
set_option maxHeartbeats 4000000
set_option linter.unusedSimpArgs false
set_option linter.unusedVariables false
def shOk (n : Nat) (f t m : Int) : Bool := inR 0 ((n : Int) - 1) f && inR 0 ((n : Int) - 1) t && !(decide (f = t)) && decide (1 ≤ m)
/-- What a shunt makes of rows, and its code. -/
def shR (room : List Int) (rows : List (List Int)) (f t m : Int) : List (List Int) × Int :=
  if shOk rows.length f t m = true then
    if ((rows.getD f.toNat []).length : Int) < m then (rows, 2)
    else if room.getD t.toNat 0 < (rows.getD t.toNat []).length + m then (rows, 3)
    else ((rows.set t.toNat (rows.getD t.toNat [] ++ (rows.getD f.toNat []).drop ((rows.getD f.toNat []).length - m.toNat))).set f.toNat ((rows.getD f.toNat []).take ((rows.getD f.toNat []).length - m.toNat)), 0)
  else (rows, 1)
theorem shR_bad {room : List Int} {rows : List (List Int)} {f t m : Int} (h : shOk rows.length f t m = false) : shR room rows f t m = (rows, 1) := by rw [shR, if_neg (by rw [h]; simp)]
theorem shR_few {room : List Int} {rows : List (List Int)} {f t : Nat} {m : Int} (h : shOk rows.length f t m = true) (h2 : ((rows.getD f []).length : Int) < m) : shR room rows f t m = (rows, 2) := by
  rw [shR, if_pos h, Int.toNat_natCast, if_pos h2]
theorem shR_full {room : List Int} {rows : List (List Int)} {f t : Nat} {m : Int} (h : shOk rows.length f t m = true) (h2 : ¬ ((rows.getD f []).length : Int) < m) (h3 : room.getD t 0 < (rows.getD t []).length + m) : shR room rows f t m = (rows, 3) := by
  rw [shR, if_pos h, Int.toNat_natCast, Int.toNat_natCast, if_neg h2, if_pos h3]
theorem shR_done {room : List Int} {rows : List (List Int)} {f t m : Nat} (h : shOk rows.length f t m = true) (h2 : ¬ ((rows.getD f []).length : Int) < m) (h3 : ¬ room.getD t 0 < (rows.getD t []).length + m) : shR room rows f t m = ((rows.set t (rows.getD t [] ++ (rows.getD f []).drop ((rows.getD f []).length - m))).set f ((rows.getD f []).take ((rows.getD f []).length - m)), 0) := by
  rw [shR, if_pos h, Int.toNat_natCast, Int.toNat_natCast, Int.toNat_natCast, if_neg h2, if_neg h3]
/-- Grown, and unturned below what is B's. -/
structure Kp (B H H' : Heap) : Prop where
  nxt : H.nxt ≤ H'.nxt
  get : ∀ a, a < B.nxt → H'.get a = H.get a
theorem Kp.refl (B H : Heap) : Kp B H H := ⟨Nat.le_refl _, fun _ _ => rfl⟩
theorem Kp.trans {B H H1 H2 : Heap} (h : Kp B H H1) (k : Kp B H1 H2) : Kp B H H2 := ⟨Nat.le_trans h.nxt k.nxt, fun a ha => (k.get a ha).trans (h.get a ha)⟩
theorem Kp.of {B H H' : Heap} (h : Keep H H') (hb : B.nxt ≤ H.nxt) : Kp B H H' := ⟨h.nxt, fun a ha => h.get a (by omega)⟩
theorem Kp.keep {B H H' : Heap} (h : Kp B H H') (k : Keep B H) : Keep B H' := ⟨Nat.le_trans k.nxt h.nxt, fun a ha => (h.get a ha).trans (k.get a ha)⟩
/-- Sidings of one's own in a box at q, all of it newer than B. -/
def Yrd (B H : Heap) (q : Nat) (room : List Int) (rows : List (List Int)) : Prop := B.nxt ≤ q ∧ q < H.nxt ∧ ∃ v w F0 F1, H.get q = some (.own [v, w]) ∧ (rSlc rInt).own H [v] room F0 ∧ (rSlc (rSlc rInt)).own H [w] rows F1 ∧ F0.Nodup ∧ F1.Nodup ∧ (∀ a ∈ F0, B.nxt ≤ a ∧ a ≠ q) ∧ (∀ a ∈ F1, B.nxt ≤ a ∧ a ≠ q ∧ a ∉ F0)
/-- The same, of whatever places are let. -/
def YrdP (P : Nat → Prop) (H : Heap) (q : Nat) (room : List Int) (rows : List (List Int)) : Prop := P q ∧ q < H.nxt ∧ ∃ v w F0 F1, H.get q = some (.own [v, w]) ∧ (rSlc rInt).own H [v] room F0 ∧ (rSlc (rSlc rInt)).own H [w] rows F1 ∧ F0.Nodup ∧ F1.Nodup ∧ (∀ a ∈ F0, P a ∧ a ≠ q) ∧ (∀ a ∈ F1, P a ∧ a ≠ q ∧ a ∉ F0)
structure KpP (P : Nat → Prop) (H H' : Heap) : Prop where
  nxt : H.nxt ≤ H'.nxt
  get : ∀ a, a < H.nxt → ¬ P a → H'.get a = H.get a
theorem KpP.trans {P : Nat → Prop} {H H1 H2 : Heap} (h : KpP P H H1) (k : KpP P H1 H2) : KpP P H H2 := ⟨Nat.le_trans h.nxt k.nxt, fun a ha hp => (k.get a (Nat.lt_of_lt_of_le ha h.nxt) hp).trans (h.get a ha hp)⟩
theorem KpP.of {P : Nat → Prop} {H H' : Heap} (h : Keep H H') : KpP P H H' := ⟨h.nxt, fun a ha _ => h.get a ha⟩
theorem YrdP.keep {P : Nat → Prop} {H H' : Heap} {q : Nat} {room : List Int} {rows : List (List Int)} (h : YrdP P H q room rows) (k : Keep H H') : YrdP P H' q room rows := by
  obtain ⟨h1, h2, v, w, F0, F1, g, o0, o1, r⟩ := h
  exact ⟨h1, Nat.lt_of_lt_of_le h2 k.nxt, v, w, F0, F1, (k.get q h2).trans g, (rSlc rInt).ownKeep o0 k, (rSlc (rSlc rInt)).ownKeep o1 k, r⟩
theorem Yrd.keep {B H H' : Heap} {q : Nat} {room : List Int} {rows : List (List Int)} (h : Yrd B H q room rows) (k : Keep H H') : Yrd B H' q room rows := by
  obtain ⟨h1, h2, v, w, F0, F1, g, o0, o1, r⟩ := h
  exact ⟨h1, Nat.lt_of_lt_of_le h2 k.nxt, v, w, F0, F1, (k.get q h2).trans g, (rSlc rInt).ownKeep o0 k, (rSlc (rSlc rInt)).ownKeep o1 k, r⟩
theorem bool_split {b : Bool} {p : Prop} (h1 : b = true → p) (h2 : b = false → p) : p := by cases b; exact h2 rfl; exact h1 rfl
theorem shunt_core {P : Nat → Prop} {H : Heap} {q N f t m : Nat} {room : List Int} {rows : List (List Int)} {v w : Value} {F0 F1 : List Nat} (hq : P q) (hq2 : q < N) (hN : N ≤ H.nxt) (hP : ∀ a, H.nxt ≤ a → P a) (gq : H.get q = some (.own [v, w])) (o02 : (rSlc rInt).own H [v] room F0) (o12 : (rSlc (rSlc rInt)).own H [w] rows F1) (nd0 : F0.Nodup) (nd1 : F1.Nodup) (f0 : ∀ a ∈ F0, P a ∧ a ≠ q ∧ a < N) (f1 : ∀ a ∈ F1, P a ∧ a ≠ q ∧ a ∉ F0 ∧ a < N)
    (hf : f < rows.length) (ht : t < rows.length) (hft : f ≠ t) (hlf : rows[f].length ≤ 100000000) (hlt : rows[t].length ≤ 100000000) :
    ∃ fv tv, vld1 H (adr w f 1 0) = some (fv, H) ∧ vld1 H (adr w t 1 0) = some (tv, H) ∧ (∀ H : Heap, vlen H fv = some (.int .i64 (rows[f]).length, H)) ∧ (∀ H : Heap, vlen H tv = some (.int .i64 (rows[t]).length, H)) ∧ blk w < N ∧
      (m ≤ rows[f].length → ∃ sv x y H3 H4 H6, (∀ H1 : Heap, vslc H1 1 (some (.int .i64 ((rows[f].length - m : Nat) : Int))) none none fv = some (sv, H1)) ∧ vapp H 1 8 tv sv = some (x, H3) ∧ vst H3 1 x (adr w t 1 0) = some (undef, H4) ∧ (∀ H1 : Heap, vslc H1 1 none (some (.int .i64 ((rows[f].length - m : Nat) : Int))) (some (.int .i64 ((rows[f].length - m : Nat) : Int))) fv = some (y, H1)) ∧ vst H4 1 y (adr w f 1 0) = some (undef, H6) ∧
        (∀ a, (a = q ∨ ¬ P a ∨ N ≤ a) → a < H.nxt → H3.get a = H.get a ∧ H4.get a = H.get a ∧ H6.get a = H.get a) ∧ H.nxt ≤ H3.nxt ∧ H3.nxt = H4.nxt ∧ H4.nxt = H6.nxt ∧ YrdP P H6 q room ((rows.set t (rows[t] ++ rows[f].drop (rows[f].length - m))).set f (rows[f].take (rows[f].length - m)))) := by
  obtain ⟨rowf, Gf, of, ndf, hGf, _, _, ef, _, _, _⟩ := own_focus (r := rSlc rInt) (sz := 1) rfl (by omega) o12 nd1 hf
  obtain ⟨fv, rfl⟩ := slc_one ((rSlc rInt).ownrd of)
  have ef := ef 0 fv rfl
  obtain ⟨rowt, Gt, ot, ndt, hGt, _, _, et, hbF, hbG, put⟩ := own_focus (r := rSlc rInt) (sz := 1) rfl (by omega) o12 nd1 ht
  obtain ⟨tv, rfl⟩ := slc_one ((rSlc rInt).ownrd ot)
  have et := et 0 tv rfl
  refine ⟨fv, tv, ef, et, fun _ => slc_len ((rSlc rInt).ownrd of), fun _ => slc_len ((rSlc rInt).ownrd ot), (f1 _ hbF).2.2.2, fun hm => ?_⟩
  have fi := ints_of ((rSlc rInt).ownrd of)
  have hsl := fun H1 : Heap => Sl.slc_lo (H1 := H1) (k := .i64) fi (show (rows[f]).length - m ≤ (rows[f]).length by omega)
  have hsub := IntsK.sub fi (show (rows[f]).length - m ≤ (rows[f]).length by omega) (Nat.le_refl _)
  have hdl : ((rows[f].drop (rows[f].length - m)).take (rows[f].length - (rows[f].length - m))) = rows[f].drop (rows[f].length - m) := List.take_of_length_le (by rw [List.length_drop]; omega)
  rw [hdl] at hsub
  obtain ⟨x, H3, F3, e3, o3, c3', f3, nd3⟩ := own_appN (bytes := 8) ot hsub (by rw [List.length_drop]; omega)
  have n3 := c3'.nxt
  obtain ⟨xa, xb⟩ := slc_cell ((rSlc rInt).ownrd o3)
  have lt1 := (rSlc (rSlc rInt)).ownlt o12
  obtain ⟨H4, F4, e4, o4, n4, g4, f4, _, nd4, hold⟩ := put H3 x [x] _ F3 c3' o3 (fun a ha => by
    rcases f3 a ha with h | h
    · exact .inr h
    · exact .inl fun h' => by have := lt1 a h'; omega) (nd3 ndt) xb xa
  have hold := hold f 0 fv hft (by omega) ef
  have hf4 : f < (rows.set t (rows[t] ++ rows[f].drop (rows[f].length - m))).length := by rw [List.length_set]; exact hf
  have hget4 : (rows.set t (rows[t] ++ rows[f].drop (rows[f].length - m)))[f] = rows[f] := List.getElem_set_ne (Ne.symm hft) _
  obtain ⟨row5, G5, o5, nd5, hG5, _, _, e5, hbF5, hbG5, put5⟩ := own_focus (r := rSlc rInt) (sz := 1) rfl (by omega) o4 nd4 hf4
  obtain ⟨fv', rfl⟩ := slc_one ((rSlc rInt).ownrd o5)
  have e5 := e5 0 fv' rfl
  obtain rfl : fv' = fv := by rw [hold] at e5; simpa using e5.symm
  rw [hget4] at o5
  obtain ⟨y, hy6, o6⟩ := own_front o5 (show (rows[f]).length - m ≤ (rows[f]).length by omega)
  obtain ⟨ya, yb⟩ := slc_cell ((rSlc rInt).ownrd o6)
  obtain ⟨H6, F6, e6, o6', n6, g6, f6, _, nd6, _⟩ := put5 H4 y [y] _ G5 (Chg.refl _ _) o6 (fun a ha => .inr ha) nd5 yb ya
  have hbl : blk w ∈ F1 := hbF
  have notF : ∀ a, a = q ∨ ¬ P a ∨ N ≤ a → a ∉ F1 := fun a ha h => by
    obtain ⟨h1, h2, _, h4⟩ := f1 a h
    rcases ha with ha | ha | ha
    · exact h2 ha
    · exact ha h1
    · omega
  have oldG : ∀ a, a = q ∨ ¬ P a ∨ N ≤ a → a ∉ Gt ∧ a ≠ blk w := fun a ha => ⟨fun h => notF a ha (hGt a h), fun h => notF a ha (h ▸ hbl)⟩
  have old : ∀ a, (a = q ∨ ¬ P a ∨ N ≤ a) → a < H.nxt → H3.get a = H.get a ∧ H4.get a = H.get a ∧ H6.get a = H.get a := fun a ha hlt => by
    obtain ⟨h1, h2⟩ := oldG a ha
    have h3 := c3'.get a hlt h1
    exact ⟨h3, (g4 a h2).trans h3, (g6 a h2).trans ((g4 a h2).trans h3)⟩
  have lw1 : (rSlc rInt).own H4 [v] room F0 := (rSlc rInt).ownk o02 (by omega) (fun a ha => by
    rw [g4 a (fun h => (f1 _ hbl).2.2.1 (h ▸ ha)), c3'.get a ((rSlc rInt).ownlt o02 a ha) (fun h => (f1 _ (hGt a h)).2.2.1 ha)])
  have lw2 : (rSlc rInt).own H6 [v] room F0 := (rSlc rInt).ownk lw1 (by omega) (fun a ha => g6 a (fun h => (f1 _ hbl).2.2.1 (h ▸ ha)))
  have hF4 : ∀ a ∈ F4, a ∈ F1 ∨ H.nxt ≤ a := fun a ha => by
    rcases f4 a ha with ⟨h, _⟩ | h
    · exact .inl h
    · rcases f3 a h with h | h
      · exact .inl (hGt a h)
      · exact .inr h.1
  refine ⟨_, x, y, H3, H4, H6, hsl, e3, e4, hy6, e6, old, n3, n4.symm, n6.symm, hq, by omega, v, w, F0, F6, (old q (.inl rfl) (by omega)).2.2.trans gq, lw2, o6', nd0, nd6, fun a ha => ⟨(f0 a ha).1, (f0 a ha).2.1⟩, fun a ha => ?_⟩
  have hF6 : a ∈ F1 ∨ H.nxt ≤ a := by
    rcases f6 a ha with ⟨h, _⟩ | h
    · exact hF4 a h
    · exact hF4 a (hG5 a h)
  rcases hF6 with h | h
  · exact ⟨(f1 a h).1, (f1 a h).2.1, (f1 a h).2.2.1⟩
  · exact ⟨hP a h, by omega, fun h' => by have := (f0 a h').2.2; omega⟩
theorem shOk_ok {n : Nat} {f t m : Int} (c1 : inR 0 ((n : Int) - 1) f = true) (c2 : inR 0 ((n : Int) - 1) t = true) (c3 : ¬ f = t) (c4 : ¬ m < 1) : shOk n f t m = true := by
  simp only [shOk, c1, c2, c3, decide_false, Bool.not_false, Bool.and_self, Bool.true_and]
  simp; omega
theorem r_impl_shuntP {P : Nat → Prop} {H : Heap} {q : Nat} {room : List Int} {rows : List (List Int)} {f t m : Int} (hP : ∀ a, H.nxt ≤ a → P a) (hy : YrdP P H q room rows) (hn : rows.length ≤ 1000) (hr : room.length = rows.length) (hl : ∀ i (hi : i < rows.length), rows[i].length ≤ 100000000) :
    Run Try.prog 79 [ptr q 0, .agg #[.int .i64 f, .int .i64 t, .int .i64 m]] H fun r H' => KpP P H H' ∧ YrdP P H' q (room) (shR room rows f t m).1 ∧ r = .int .i64 (shR room rows f t m).2 := by
  have hy0 := hy
  obtain ⟨hq, hq2, v, w, F0, F1, gq, o0, o1, nd0, nd1, f0, f1⟩ := hy
  have lw : ∀ H : Heap, vlen H w = some (.int .i64 rows.length, H) := fun _ => slc_len ((rSlc (rSlc rInt)).ownrd o1)
  have ix : ∀ (H0 : Heap) {i : Nat}, i < rows.length → vidx H0 1 w (.int .i64 (i : Int)) = some (adr w i 1 0, H0) := fun H0 i hi => slc_idx (r := rSlc rInt) (sz := 1) rfl ((rSlc (rSlc rInt)).ownrd o1) hi
  have lt0 := (rSlc rInt).ownlt o0
  have lt1 := (rSlc (rSlc rInt)).ownlt o1
  refine Run.intro c79 rfl ?_
  simp (maxSteps := 4000000) (disch := omega) only [Zq, evO, vbox, wr, Zeq, if_true, if_false, Nat.reduceEqDiff, Nat.reduceAdd, Nat.reduceLeDiff, Nat.reduceSub, and_self, and_true, true_and, reduceIte, reduceCtorEq, eq_self, implies_true, forall_const, false_implies, imp_self, decide_true, decide_false, x79]
  generalize hG0 : H.push [.int .i64 f, .int .i64 t, .int .i64 m] = H0
  have k0 : Keep H H0 := by rw [← hG0]; exact Keep.push _ _
  have g0 : H0.get H.nxt = some (.own [.int .i64 f, .int .i64 t, .int .i64 m]) := by rw [← hG0, push_get', if_pos rfl]
  have n0 : H0.nxt = H.nxt + 1 := by rw [← hG0, Zbg]
  have g0q := (k0.get q (by omega)).trans gq
  have bad : ∀ H', Keep H H' → shOk rows.length f t m = false → KpP P H H' ∧ YrdP P H' q room (shR room rows f t m).1 ∧ (Value.int .i64 1) = .int .i64 (shR room rows f t m).2 := fun H' k hs => by
    rw [shR_bad hs]
    exact ⟨KpP.of k, hy0.keep k, rfl⟩
  have hw1 : IntKind.i64.wrap ((rows.length : Int) - 1) = (rows.length : Int) - 1 := wrap64 (by omega) (by omega)
  refine G_tame rfl ?_
  simp (maxSteps := 4000000) (disch := omega) only [Zq, evO, vbox, wr, Zeq, if_true, if_false, Nat.reduceEqDiff, Nat.reduceAdd, Nat.reduceLeDiff, Nat.reduceSub, and_self, and_true, true_and, reduceIte, reduceCtorEq, eq_self, implies_true, forall_const, false_implies, imp_self, decide_true, decide_false, fix_nil, fix_cons, g0, g0q, lw, hw1]
  refine GO_call ((r_impl_between f 0 ((rows.length : Int) - 1) _).mono ?_)
  rintro _ H1 ⟨k1, rfl⟩
  have n1 := k1.nxt
  have g1 := (k1.get (H.nxt) (by omega)).trans g0
  have g1q := (k1.get (q) (by omega)).trans g0q
  by_cases c1 : inR 0 ((rows.length : Int) - 1) f = true
  rotate_left
  · have c1' : inR 0 ((rows.length : Int) - 1) f = false := by simpa using c1
    simp (maxSteps := 4000000) (disch := omega) only [Zq, evO, vbox, wr, Zeq, if_true, if_false, Nat.reduceEqDiff, Nat.reduceAdd, Nat.reduceLeDiff, Nat.reduceSub, and_self, and_true, true_and, reduceIte, reduceCtorEq, eq_self, implies_true, forall_const, false_implies, imp_self, decide_true, decide_false, fix_nil, fix_cons, g0, g0q, g1, g1q, c1']
    exact bad _ (k0.trans k1) (by simp [shOk, c1'])
  simp (maxSteps := 4000000) (disch := omega) only [Zq, evO, vbox, wr, Zeq, if_true, if_false, Nat.reduceEqDiff, Nat.reduceAdd, Nat.reduceLeDiff, Nat.reduceSub, and_self, and_true, true_and, reduceIte, reduceCtorEq, eq_self, implies_true, forall_const, false_implies, imp_self, decide_true, decide_false, fix_nil, fix_cons, g0, g0q, g1, g1q, c1, lw, hw1]
  refine GO_call ((r_impl_between t 0 ((rows.length : Int) - 1) _).mono ?_)
  rintro _ H2 ⟨k2, rfl⟩
  have n2 := k2.nxt
  have g2 := (k2.get (H.nxt) (by omega)).trans g1
  have g2q := (k2.get (q) (by omega)).trans g1q
  by_cases c2 : inR 0 ((rows.length : Int) - 1) t = true
  rotate_left
  · have c2' : inR 0 ((rows.length : Int) - 1) t = false := by simpa using c2
    simp (maxSteps := 4000000) (disch := omega) only [Zq, evO, vbox, wr, Zeq, if_true, if_false, Nat.reduceEqDiff, Nat.reduceAdd, Nat.reduceLeDiff, Nat.reduceSub, and_self, and_true, true_and, reduceIte, reduceCtorEq, eq_self, implies_true, forall_const, false_implies, imp_self, decide_true, decide_false, fix_nil, fix_cons, g0, g0q, g1, g1q, g2, g2q, c2']
    exact bad _ (k0.trans (k1.trans k2)) (by simp [shOk, c2'])
  have k02 : Keep H H2 := k0.trans (k1.trans k2)
  by_cases c3 : f = t
  · have hs : shOk rows.length f t m = false := by simp [shOk, c3]
    simp (maxSteps := 4000000) (disch := omega) only [Zq, evO, vbox, wr, Zeq, if_true, if_false, Nat.reduceEqDiff, Nat.reduceAdd, Nat.reduceLeDiff, Nat.reduceSub, and_self, and_true, true_and, reduceIte, reduceCtorEq, eq_self, implies_true, forall_const, false_implies, imp_self, decide_true, decide_false, fix_nil, fix_cons, g0, g0q, g1, g1q, g2, g2q, c2, Zfl c3]
    exact bad _ k02 hs
  by_cases c4 : m < 1
  · have hs : shOk rows.length f t m = false := by simp [shOk]; omega
    simp (maxSteps := 4000000) (disch := omega) only [Zq, evO, vbox, wr, Zeq, if_true, if_false, Nat.reduceEqDiff, Nat.reduceAdd, Nat.reduceLeDiff, Nat.reduceSub, and_self, and_true, true_and, reduceIte, reduceCtorEq, eq_self, implies_true, forall_const, false_implies, imp_self, decide_true, decide_false, fix_nil, fix_cons, g0, g0q, g1, g1q, g2, g2q, c2, Zfm c3, Zfh c4]
    exact bad _ k02 hs
  have hok := shOk_ok c1 c2 c3 c4
  have b1 := inR_iff.1 c1
  have b2 := inR_iff.1 c2
  simp (maxSteps := 4000000) (disch := omega) only [Zq, evO, vbox, wr, Zeq, if_true, if_false, Nat.reduceEqDiff, Nat.reduceAdd, Nat.reduceLeDiff, Nat.reduceSub, and_self, and_true, true_and, reduceIte, reduceCtorEq, eq_self, implies_true, forall_const, false_implies, imp_self, decide_true, decide_false, fix_nil, fix_cons, g0, g0q, g1, g1q, g2, g2q, c2, Zfm c3, Zfi c4]
  first | refine G_fix [0, 3] ?_ | refine GO_fix [0, 3] ?_ | refine cK_fix [0, 3] ?_
  intro T hT
  simp only [fix_nil, fix_cons, Zq, evO, vbox, wr, Zeq, if_true, if_false, Nat.reduceEqDiff, Nat.reduceAdd, Nat.reduceLeDiff, Nat.reduceSub, and_self, and_true, true_and, reduceIte, reduceCtorEq, eq_self, implies_true, forall_const, false_implies, imp_self, decide_true, decide_false] at hT
  obtain ⟨t0, t3⟩ := hT
  have o02 := (rSlc rInt).ownKeep o0 k02
  have o12 := (rSlc (rSlc rInt)).ownKeep o1 k02
  have y2 := hy0.keep k02
  have n02 : H2.nxt ≥ H.nxt + 1 := by omega
  have f0' : ∀ a ∈ F0, P a ∧ a ≠ q ∧ a < H.nxt := fun a ha => ⟨(f0 a ha).1, (f0 a ha).2, lt0 a ha⟩
  have f1' : ∀ a ∈ F1, P a ∧ a ≠ q ∧ a ∉ F0 ∧ a < H.nxt := fun a ha => ⟨(f1 a ha).1, (f1 a ha).2.1, (f1 a ha).2.2, lt1 a ha⟩
  have kp : KpP P H H2 := KpP.of k02
  have ri := ints_of ((rSlc rInt).ownrd o02)
  clear n1 n2 k1 k2 g1 g1q g0 g0q k0 n0 hG0 H0 H1 bad lt0 lt1 hw1 f0 f1 o0 o1 k02
  obtain ⟨f, rfl⟩ : ∃ n : Nat, f = n := ⟨f.toNat, by omega⟩
  obtain ⟨t, rfl⟩ : ∃ n : Nat, t = n := ⟨t.toNat, by omega⟩
  obtain ⟨m, rfl⟩ : ∃ n : Nat, m = n := ⟨m.toNat, by omega⟩
  have hf : f < rows.length := by omega
  have ht : t < rows.length := by omega
  have hlf := hl f hf
  have hlt := hl t ht
  have gf : rows.getD f [] = rows[f] := getD_get rows [] hf
  have gt : rows.getD t [] = rows[t] := getD_get rows [] ht
  obtain ⟨fv, tv, ef, et, lf, lt, wlt, core⟩ := shunt_core (m := m) hq hq2 (by omega) (fun a ha => hP a (by omega)) g2q o02 o12 nd0 nd1 f0' f1' hf ht (by omega) hlf hlt
  have if_ := fun H0 => ix H0 hf
  have it_ := fun H0 => ix H0 ht
  have htr : t < room.length := by omega
  have ia := fun H0 : Heap => IntsK.idx (H1 := H0) (k' := .i64) ri htr
  have il := IntsK.ld ri htr
  clear b1 b2 c1 c2 hl ix hr c3 c4 f0' f1' o02 o12
  refine G_calm rfl ?_
  simp (maxSteps := 4000000) (disch := omega) only [Zq, evO, vbox, wr, Zeq, if_true, if_false, Nat.reduceEqDiff, Nat.reduceAdd, Nat.reduceLeDiff, Nat.reduceSub, and_self, and_true, true_and, reduceIte, reduceCtorEq, eq_self, implies_true, forall_const, false_implies, imp_self, decide_true, decide_false, fix_nil, fix_cons, g2, g2q, t0, t3, if_, it_, ef, et, lf]
  by_cases c5 : ((rows[f]).length : Int) < m
  · simp (maxSteps := 4000000) (disch := omega) only [Zq, evO, vbox, wr, Zeq, if_true, if_false, Nat.reduceEqDiff, Nat.reduceAdd, Nat.reduceLeDiff, Nat.reduceSub, and_self, and_true, true_and, reduceIte, reduceCtorEq, eq_self, implies_true, forall_const, false_implies, imp_self, decide_true, decide_false, fix_nil, fix_cons, g2, g2q, t0, t3, Zfh c5]
    rw [shR_few hok (by rw [gf]; exact c5)]
    exact ⟨kp, y2, rfl⟩
  simp (maxSteps := 4000000) (disch := omega) only [Zq, evO, vbox, wr, Zeq, if_true, if_false, Nat.reduceEqDiff, Nat.reduceAdd, Nat.reduceLeDiff, Nat.reduceSub, and_self, and_true, true_and, reduceIte, reduceCtorEq, eq_self, implies_true, forall_const, false_implies, imp_self, decide_true, decide_false, fix_nil, fix_cons, g2, g2q, t0, t3, Zfi c5]
  first | refine G_fix [0, 3, 5, 6] ?_ | refine GO_fix [0, 3, 5, 6] ?_ | refine cK_fix [0, 3, 5, 6] ?_
  intro T hT
  simp only [fix_nil, fix_cons, Zq, evO, vbox, wr, Zeq, if_true, if_false, Nat.reduceEqDiff, Nat.reduceAdd, Nat.reduceLeDiff, Nat.reduceSub, and_self, and_true, true_and, reduceIte, reduceCtorEq, eq_self, implies_true, forall_const, false_implies, imp_self, decide_true, decide_false, t0, t3] at hT
  obtain ⟨t0, t3, t5, t6⟩ := hT
  refine G_calm rfl ?_
  have hw2 : IntKind.i64.wrap (((rows[t]).length : Int) + m) = (rows[t]).length + m := wrap64 (by omega) (by omega)
  simp (maxSteps := 4000000) (disch := omega) only [Zq, evO, vbox, wr, Zeq, if_true, if_false, Nat.reduceEqDiff, Nat.reduceAdd, Nat.reduceLeDiff, Nat.reduceSub, and_self, and_true, true_and, reduceIte, reduceCtorEq, eq_self, implies_true, forall_const, false_implies, imp_self, decide_true, decide_false, fix_nil, fix_cons, g2, g2q, t0, t3, t5, t6, lt, ia, il, hw2]
  by_cases c6 : room.getD t 0 < (rows[t]).length + m
  · simp (maxSteps := 4000000) (disch := omega) only [Zq, evO, vbox, wr, Zeq, if_true, if_false, Nat.reduceEqDiff, Nat.reduceAdd, Nat.reduceLeDiff, Nat.reduceSub, and_self, and_true, true_and, reduceIte, reduceCtorEq, eq_self, implies_true, forall_const, false_implies, imp_self, decide_true, decide_false, fix_nil, fix_cons, g2, g2q, t0, t3, t5, t6, Zfh c6]
    rw [shR_full hok (by rw [gf]; exact c5) (by rw [gt]; exact c6)]
    exact ⟨kp, y2, rfl⟩
  have hw : IntKind.i64.wrap (((rows[f]).length : Int) - m) = (((rows[f]).length - m : Nat) : Int) := by rw [wrap64 (by omega) (by omega)]; omega
  obtain ⟨sv, x, y, H3, H4, H6, hsl, e3, e4, hy6, e6, old, n3, n4, n6, y6⟩ := core (by omega)
  have oq := old q (.inl rfl) (by omega)
  have oh := old H.nxt (.inr (.inr (Nat.le_refl _))) (by omega)
  have g3q := oq.1.trans g2q
  have g4q := oq.2.1.trans g2q
  have g3h := oh.1.trans g2
  have g4h := oh.2.1.trans g2
  have hm1 : ¬ ((rows.getD f []).length : Int) < m := by rw [gf]; exact c5
  have hm2 : ¬ room.getD t 0 < (rows.getD t []).length + (m : Int) := by rw [gt]; exact c6
  have hfin := shR_done hok hm1 hm2
  rw [gf, gt] at hfin
  have kp6 : KpP P H2 H6 := ⟨by omega, fun a ha hp => (old a (.inr (.inl hp)) ha).2.2⟩
  simp (maxSteps := 4000000) (disch := omega) only [Zq, evO, vbox, wr, Zeq, if_true, if_false, Nat.reduceEqDiff, Nat.reduceAdd, Nat.reduceLeDiff, Nat.reduceSub, and_self, and_true, true_and, reduceIte, reduceCtorEq, eq_self, implies_true, forall_const, false_implies, imp_self, decide_true, decide_false, fix_nil, fix_cons, g2, g2q, t0, t3, t5, t6, g3q, g4q, g3h, g4h, Zfi c6, lf, hw]
  first | refine G_fix [0, 3, 5, 6, 7] ?_ | refine GO_fix [0, 3, 5, 6, 7] ?_ | refine cK_fix [0, 3, 5, 6, 7] ?_
  intro T hT
  simp only [fix_nil, fix_cons, Zq, evO, vbox, wr, Zeq, if_true, if_false, Nat.reduceEqDiff, Nat.reduceAdd, Nat.reduceLeDiff, Nat.reduceSub, and_self, and_true, true_and, reduceIte, reduceCtorEq, eq_self, implies_true, forall_const, false_implies, imp_self, decide_true, decide_false, t0, t3, t5, t6] at hT
  obtain ⟨t0, t3, t5, t6, t7⟩ := hT
  simp (maxSteps := 4000000) (disch := omega) only [ZD, Zio, Zip, pre_, beq_self_eq_true, Nat.reduceBEq, Zq, evO, vbox, wr, Zeq, if_true, if_false, Nat.reduceEqDiff, Nat.reduceAdd, Nat.reduceLeDiff, Nat.reduceSub, and_self, and_true, true_and, reduceIte, reduceCtorEq, eq_self, implies_true, forall_const, false_implies, imp_self, decide_true, decide_false, fix_nil, fix_cons, g2, g2q, t0, t3, t5, t6, g3q, g4q, g3h, g4h, t7, G_dreg, GD_app, hsl, e3, it_, e4, hy6, if_, e6]
  rw [hfin]
  exact ⟨kp.trans kp6, y6, rfl⟩
theorem r_impl_shunt {B H : Heap} {q : Nat} {room : List Int} {rows : List (List Int)} {f t m : Int} (hB : B.nxt ≤ H.nxt) (hy : Yrd B H q room rows) (hn : rows.length ≤ 1000) (hr : room.length = rows.length) (hl : ∀ i (hi : i < rows.length), rows[i].length ≤ 100000000) :
    Run Try.prog 79 [ptr q 0, .agg #[.int .i64 f, .int .i64 t, .int .i64 m]] H fun r H' => Kp B H H' ∧ Yrd B H' q (room) (shR room rows f t m).1 ∧ r = .int .i64 (shR room rows f t m).2 :=
  (r_impl_shuntP (P := fun a => B.nxt ≤ a) (fun a ha => Nat.le_trans hB ha) hy hn hr hl).mono fun r H' h => ⟨⟨h.1.nxt, fun a ha => h.1.get a (by omega) (fun hh => by have hh : B.nxt ≤ a := hh; omega)⟩, h.2⟩
end Go.Proofs.Ytiajbefljkikiaa.AX
