/- Drawn telegrams, one at a time. No condition beyond each law's own; of the program: the functions' forms. -/
import Derived.Test.YtiajbefljkikiaaDoorTgp
import Derived.Test.YtiajbefljkikiaaDoorGpd
namespace Go.Proofs.YtiajbefljkikiaaDoor.AX
open Go
set_option maxRecDepth 10000
set_option maxHeartbeats 4000000
set_option linter.unusedSimpArgs false
set_option linter.unusedVariables false
theorem r_laws_at {H : Heap} {v : Value} {code : List Int} {i : Nat} (h : Bts' H v code) (hl : code.length ≤ 1048576) (hi : i ≤ 1048576) (hc : ∀ x ∈ code, 0 ≤ x ∧ x ≤ 255) : Run Tryd.prog 12 [v, .int .i64 (i : Int)] H fun r H' => Keep H H' ∧ r = .int .i64 (atR code i) := by
  refine Run.intro c12 rfl ?_
  by_cases hin : i < code.length
  · have hr := hc _ (getD_mem hin)
    have hw : IntKind.i64.wrap (code.getD i 0) = code.getD i 0 := wrap64 (by omega) (by omega)
    simp (maxSteps := 4000000) (disch := omega) only [Zq, evO, vbox, wr, Zeq, if_true, if_false, Nat.reduceEqDiff, Nat.reduceAdd, Nat.reduceLeDiff, Nat.reduceSub, and_self, and_true, true_and, reduceIte, reduceCtorEq, eq_self, implies_true, forall_const, false_implies, imp_self, decide_true, decide_false, x12, h.len_, h.idx hin, h.ld hin, hw]
    exact ⟨Keep.refl _, by rw [atR, if_pos hin]⟩
  · have h1 : IntKind.i64.wrap ((i : Int) * 11) = ((i * 11 : Nat) : Int) := by rw [wrap64 (by omega) (by omega)]; omega
    have h2 : IntKind.i64.wrap ((code.length : Int) * 3) = ((code.length * 3 : Nat) : Int) := by rw [wrap64 (by omega) (by omega)]; omega
    have h3 : IntKind.i64.wrap (((i * 11 : Nat) : Int) + ((code.length * 3 : Nat) : Int)) = ((i * 11 + code.length * 3 : Nat) : Int) := by rw [wrap64 (by omega) (by omega)]; omega
    have h4 : abin .rem (.int .i64 ((i * 11 + code.length * 3 : Nat) : Int)) (.int .i64 256) = some (.int .i64 (((i * 11 + code.length * 3 : Nat) : Int).tmod 256)) := abin_rem (by omega)
    simp (maxSteps := 4000000) (disch := omega) only [Zq, evO, vbox, wr, Zeq, if_true, if_false, Nat.reduceEqDiff, Nat.reduceAdd, Nat.reduceLeDiff, Nat.reduceSub, and_self, and_true, true_and, reduceIte, reduceCtorEq, eq_self, implies_true, forall_const, false_implies, imp_self, decide_true, decide_false, x12, h.len_, h1, h2, h3, h4]
    exact ⟨Keep.refl _, by rw [atR, if_neg hin]⟩
section
variable {B H : Heap} {v : Value} {code : List Int} {p : Nat}
theorem ints_lit {xs : List Int} : Ints (H.push (xs.map (Value.int .i64))) (.slice (some ⟨H.nxt, 0, none⟩) xs.length 1) xs :=
  sl_own (by rw [Zbg]; omega) (by rw [push_get', if_pos rfl]) (by simp)
theorem GP.set {α : Type} {r : Rep α} {H1 : Heap} {w : Value} {xs : List α} {F : List Nat} {q : Nat} {cs : List Value} (h : GP r B v code p H H1 w xs F) (hq : H.nxt ≤ q) (hF : q ∉ F) : GP r B v code p H (H1.set q cs) w xs F :=
  have pl := h.pl
  ⟨⟨by rw [Zbh]; exact h.chg.nxt, fun a ha hm => by rw [Zbi, if_neg (by omega)]; exact h.chg.get a ha hm⟩, cur_ch (G := [q]) h.cur (by rw [Zbh]; exact Nat.le_refl _) (fun a ha hm => by rw [Zbi, if_neg (by simpa using hm)]) (fun a ha => by simp at ha; have := h.cur.2.1; omega) (by simp; omega), pl, (rSlc r).ownk h.o (by rw [Zbh]; exact Nat.le_refl _) (fun a ha => by rw [Zbi, if_neg (fun e => by subst e; exact hF ha)]), h.nd, h.fr⟩
section
variable {α : Type} {r : Rep α} {H1 H2 : Heap} {w : Value} {xs : List α} {F : List Nat} {sz bytes : Nat}
theorem GP.app2 (h : GP r B v code p H H1 w xs F) (hz : r.sz = sz) (h0 : 0 < sz) {row : List Value} {y : α} {G : List Nat} (hy : r.own H1 row y G) (hG : G.Nodup) (hd : ∀ a ∈ G, H.nxt ≤ a ∧ a ∉ F) (hb : (xs.length + 1) * bytes ≤ 140737488355328) :
    ∃ u H2 F', vapp (H1.push row) sz bytes w (.slice (some ⟨H1.nxt, 0, none⟩) 1 sz) = some (u, H2) ∧ GP r B v code p H H2 u (xs ++ [y]) F' ∧ H1.nxt ≤ H2.nxt ∧ (∀ a, a < H1.nxt → a ∉ F → H2.get a = H1.get a) ∧ ∀ a ∈ F', a ∈ F ∨ a ∈ G ∨ H1.nxt ≤ a := by
  obtain ⟨u, H2, F', e, o, c, f, nd, _⟩ := own_app (bytes := bytes) hz h0 h.o hy h.nd hG (fun a ha => (hd a ha).2) hb
  have n := c.nxt
  have nH := h.chg.nxt
  have pl := h.pl
  have old : ∀ a, a < H1.nxt → a ∉ F → H2.get a = H1.get a := fun a ha hm => c.get a ha hm
  have pF : p ∉ F := fun hm => by have := h.fr p hm; omega
  refine ⟨u, H2, F', e, ⟨⟨by omega, fun a ha hm => ?_⟩, cur_ch (G := F) h.cur n old (fun a ha => ?_) pF, pl, o, nd, fun a ha => ?_⟩, n, old, fun a ha => by
    rcases f a ha with h1 | h1 | h1
    · exact .inl h1
    · exact .inr (.inl h1)
    · exact .inr (.inr h1.1)⟩
  · rw [old a (by omega) (fun hh => by have := h.fr a hh; omega), h.chg.get a ha hm]
  · have := h.fr a ha
    have := h.cur.2.1
    omega
  · rcases f a ha with h1 | h1 | h1
    · exact h.fr a h1
    · exact (hd a h1).1
    · omega
end
theorem r_spec_l20DrawRight (hb : Bts' B v code) (hl : code.length ≤ 1048576) (hc : ∀ x ∈ code, 0 ≤ x ∧ x ≤ 255) (c : Cur B v code H p) (kB : Keep B H) : Run Tryd.prog 27 [ptr p 0] H fun r H' => Chg [p] H H' ∧ Cur B v code H' p ∧ ∃ (a b : Nat) (body : List Int) (w : Value), r = .agg #[.int .i64 a, .int .i64 b, w] ∧ a < 256 ∧ b < 16 ∧ body.length ≤ 6 ∧ (∀ x ∈ body, isB x) ∧ ∃ F, (rSlc rByte).own H' [w] body F ∧ ∀ a ∈ F, H.nxt ≤ a := by
  refine Run.intro c27 rfl ?_
  simp (maxSteps := 4000000) (disch := omega) only [Zq, evO, vbox, wr, Zeq, if_true, if_false, Nat.reduceEqDiff, Nat.reduceAdd, Nat.reduceLeDiff, Nat.reduceSub, and_self, and_true, true_and, reduceIte, reduceCtorEq, eq_self, implies_true, forall_const, false_implies, imp_self, decide_true, decide_false, x27]
  have gp0 := GP.nil (r := rByte) c
  generalize hG1 : H.push [Value.int .i64 0, .int .i64 0, .slice none 0 0] = H1 at gp0 ⊢
  have k1 : Keep H H1 := by rw [← hG1]; exact Keep.push _ _
  have n1 : H1.nxt = H.nxt + 1 := by rw [← hG1, Zbg]
  have g1 : H1.get H.nxt = some (.own [.int .i64 0, .int .i64 0, .slice none 0 0]) := by rw [← hG1, push_get', if_pos rfl]
  clear hG1
  have gp1 := gp0.keep k1
  have pl0 := c.2.2.1
  refine GO_call ((r_spec_l01Below (n := 256) hb hl hc gp1.cur (by omega) (by omega)).mono ?_)
  rintro _ H2 ⟨c2, u2, a, rfl, ha⟩
  have gp2 := gp1.mv c2 u2
  have g2 := (c2.get H.nxt (by omega) (by simp; omega)).trans g1
  have n2 := c2.nxt
  simp (maxSteps := 4000000) (disch := omega) only [Zq, evO, vbox, wr, Zeq, if_true, if_false, Nat.reduceEqDiff, Nat.reduceAdd, Nat.reduceLeDiff, Nat.reduceSub, and_self, and_true, true_and, reduceIte, reduceCtorEq, eq_self, implies_true, forall_const, false_implies, imp_self, decide_true, decide_false, fix_nil, fix_cons, g1, g2]
  refine GO_call ((r_spec_l01Below (n := 16) hb hl hc gp2.cur (by omega) (by omega)).mono ?_)
  rintro _ H3 ⟨c3, u3, b, rfl, hb3⟩
  have gp3 := gp2.mv c3 u3
  have g3 := (c3.get H.nxt (by omega) (by simp; omega)).trans g2
  have n3 := c3.nxt
  simp (maxSteps := 4000000) (disch := omega) only [Zq, evO, vbox, wr, Zeq, if_true, if_false, Nat.reduceEqDiff, Nat.reduceAdd, Nat.reduceLeDiff, Nat.reduceSub, and_self, and_true, true_and, reduceIte, reduceCtorEq, eq_self, implies_true, forall_const, false_implies, imp_self, decide_true, decide_false, fix_nil, fix_cons, g1, g2, g3]
  generalize hG4 : (H3.push [.int .i64 0, .int .i64 0, .slice none 0 0]).set H3.nxt [.int .i64 a, .int .i64 b, .slice none 0 0] = H4
  have k4 : Keep H3 H4 := by rw [← hG4]; repeat' (first | exact Keep.refl _ | assumption | refine Keep.push' ?_ | refine Keep.set' ?_ ?_ | refine Keep.moved' ?_ ?_ | omega)
  have g4 : H4.get H3.nxt = some (.own [.int .i64 a, .int .i64 b, .slice none 0 0]) := by rw [← hG4, Zbi, if_pos rfl]
  have n4 : H4.nxt = H3.nxt + 1 := by rw [← hG4, Zbh, Zbg]
  have gp4 := gp3.keep k4
  have g4b := (k4.get H.nxt (by omega)).trans g3
  obtain ⟨q, hq⟩ : ∃ q, q = H3.nxt := ⟨_, rfl⟩
  rw [← hq] at g4 ⊢
  refine GO_call ((r_spec_l01Below (n := 7) hb hl hc gp4.cur (by omega) (by omega)).mono ?_)
  rintro _ H5 ⟨c5, u5, m, rfl, hm⟩
  have gp5 := gp4.mv c5 u5
  have g5 := (c5.get q (by omega) (by simp; omega)).trans g4
  have g5b := (c5.get H.nxt (by omega) (by simp; omega)).trans g4b
  have n5 := c5.nxt
  simp (maxSteps := 4000000) (disch := omega) only [Zq, evO, vbox, wr, Zeq, if_true, if_false, Nat.reduceEqDiff, Nat.reduceAdd, Nat.reduceLeDiff, Nat.reduceSub, and_self, and_true, true_and, reduceIte, reduceCtorEq, eq_self, implies_true, forall_const, false_implies, imp_self, decide_true, decide_false, fix_nil, fix_cons, g1, g2, g3, g4, g4b, g5, g5b]
  refine G_loopF [0, 2, 3] (m) (fun k T H6 => T 4 = .int .i64 (k : Int) ∧ ∃ (w : Value) (body : List Int) (F : List Nat), H6.get q = some (.own [.int .i64 a, .int .i64 b, w]) ∧ H6.get H.nxt = some (.own [.int .i64 0, .int .i64 0, .slice none 0 0]) ∧ GP rByte B v code p H H6 w body F ∧ q ∉ F ∧ q < H6.nxt ∧ H.nxt ∉ F ∧ body.length + k ≤ 6 ∧ ∀ x ∈ body, isB x) ?_ ?_
  · simp (maxSteps := 4000000) (disch := omega) only [Zq, evO, vbox, wr, Zeq, if_true, if_false, Nat.reduceEqDiff, Nat.reduceAdd, Nat.reduceLeDiff, Nat.reduceSub, and_self, and_true, true_and, reduceIte, reduceCtorEq, eq_self, implies_true, forall_const, false_implies, imp_self, decide_true, decide_false, fix_nil, fix_cons, g1, g2, g3, g4, g4b, g5, g5b]
    exact ⟨_, [], [], rfl, gp5, by simp, by omega, by simp, by simp; omega, by simp⟩
  rintro k T H6 hT ⟨t4, w, body, F, g6, g6b, gp6, qF, ql, bF, hbl, hbB⟩
  simp only [fix_nil, fix_cons, Zq, evO, vbox, wr, Zeq, if_true, if_false, Nat.reduceEqDiff, Nat.reduceAdd, Nat.reduceLeDiff, Nat.reduceSub, and_self, and_true, true_and, reduceIte, reduceCtorEq, eq_self, implies_true, forall_const, false_implies, imp_self, decide_true, decide_false] at hT
  obtain ⟨t0, t2, t3⟩ := hT
  by_cases hk : (0 : Int) < k
  rotate_left
  · obtain ⟨x1, x2⟩ := slc_cell ((rSlc rByte).ownrd gp6.o)
    simp (maxSteps := 4000000) (disch := omega) only [Zq, evO, vbox, wr, Zeq, if_true, if_false, Nat.reduceEqDiff, Nat.reduceAdd, Nat.reduceLeDiff, Nat.reduceSub, and_self, and_true, true_and, reduceIte, reduceCtorEq, eq_self, implies_true, forall_const, false_implies, imp_self, decide_true, decide_false, fix_nil, fix_cons, g1, g2, g3, g4, g4b, g5, g5b, t0, t2, t3, t4, g6, g6b, Zfi hk, x1, x2]
    have gpE := gp6.set (q := H.nxt) (cs := [.int .i64 a, .int .i64 b, w]) (Nat.le_refl _) bF
    exact ⟨gpE.chg, gpE.cur, a, b, body, w, rfl, ha, hb3, by omega, hbB, F, gpE.o, gpE.fr⟩
  simp (maxSteps := 4000000) (disch := omega) only [Zq, evO, vbox, wr, Zeq, if_true, if_false, Nat.reduceEqDiff, Nat.reduceAdd, Nat.reduceLeDiff, Nat.reduceSub, and_self, and_true, true_and, reduceIte, reduceCtorEq, eq_self, implies_true, forall_const, false_implies, imp_self, decide_true, decide_false, fix_nil, fix_cons, g1, g2, g3, g4, g4b, g5, g5b, t0, t2, t3, t4, g6, g6b, Zfh hk]
  simp (maxSteps := 4000000) (disch := omega) only [ZD, Zio, Zip, pre_, beq_self_eq_true, Nat.reduceBEq, Zq, evO, vbox, wr, Zeq, if_true, if_false, Nat.reduceEqDiff, Nat.reduceAdd, Nat.reduceLeDiff, Nat.reduceSub, and_self, and_true, true_and, reduceIte, reduceCtorEq, eq_self, implies_true, forall_const, false_implies, imp_self, decide_true, decide_false, fix_nil, fix_cons, g1, g2, g3, g4, g4b, g5, g5b, t0, t2, t3, t4, g6, g6b, G_dreg]
  refine GD_call ((r_spec_l01Below (n := 256) hb hl hc gp6.cur (by omega) (by omega)).mono ?_)
  rintro _ H7 ⟨c7, u7, z7, rfl, hz7⟩
  have gp7 := gp6.mv c7 u7
  have g7 := (c7.get q (by omega) (by simp; omega)).trans g6
  have g7b := (c7.get H.nxt (by omega) (by simp; omega)).trans g6b
  have n7 := c7.nxt
  simp (maxSteps := 4000000) (disch := omega) only [ZD, Zio, Zip, pre_, beq_self_eq_true, Nat.reduceBEq, Zq, evO, vbox, wr, Zeq, if_true, if_false, Nat.reduceEqDiff, Nat.reduceAdd, Nat.reduceLeDiff, Nat.reduceSub, and_self, and_true, true_and, reduceIte, reduceCtorEq, eq_self, implies_true, forall_const, false_implies, imp_self, decide_true, decide_false, fix_nil, fix_cons, g1, g2, g3, g4, g4b, g5, g5b, t0, t2, t3, t4, g6, g6b, g7, g7b]
  obtain ⟨xs, hxs⟩ : ∃ xs : List Int, xs = [125, 126, 93, 94, (z7 : Int), 0] := ⟨_, rfl⟩
  have hI : Ints (H7.push (xs.map (Value.int .i64))) (.slice (some ⟨H7.nxt, 0, none⟩) xs.length 1) xs := ints_lit
  have hx6 : xs.length = 6 := by rw [hxs]; rfl
  have hxb : ∀ x ∈ xs, isB x := by rw [hxs]; intro x hx; simp at hx; unfold isB; omega
  have hmap : xs.map (Value.int .i64) = [.int .i64 125, .int .i64 126, .int .i64 93, .int .i64 94, .int .i64 z7, .int .i64 0] := by rw [hxs]; rfl
  rw [hx6] at hI
  rw [hmap] at hI
  generalize hG8 : H7.push [Value.int .i64 125, .int .i64 126, .int .i64 93, .int .i64 94, .int .i64 z7, .int .i64 0] = H8 at hI ⊢
  have k8 : Keep H7 H8 := by rw [← hG8]; exact Keep.push _ _
  clear hG8
  have gp8 := gp7.keep k8
  have g8 := (k8.get q (by omega)).trans g7
  have g8b := (k8.get H.nxt (by omega)).trans g7b
  have n8 := k8.nxt
  have pl7 := gp7.cur.2.2.1
  refine GD_call ((r_spec_l01PickInt hb hl hc gp8.cur hI (by show H7.nxt ≠ p; omega) (by omega) (by omega)).mono ?_)
  rintro _ H9 ⟨c9, u9, z9, hz9, rfl⟩
  have gp9 := gp8.mv c9 u9
  have g9 := (c9.get q (by omega) (by simp; omega)).trans g8
  have g9b := (c9.get H.nxt (by omega) (by simp; omega)).trans g8b
  have n9 := c9.nxt
  have hy := hxb (xs.getD z9 0) (by rw [getD_get _ _ hz9]; exact List.getElem_mem hz9)
  generalize xs.getD z9 0 = y at hy ⊢
  clear hI hmap hxb hx6 hz9
  have hyw := wrapB y hy
  obtain ⟨u, H10, F10, e10, gp10, n10, old10, f10⟩ := gp9.app2 (bytes := 1) (sz := 1) rfl (by omega) (row := [.int .u8 y]) (y := y) (G := []) ⟨rfl, rfl⟩ (by simp) (by simp) (by omega)
  have g10 := (old10 q (by omega) qF).trans g9
  have g10b := (old10 H.nxt (by omega) bF).trans g9b
  have hw2 : IntKind.i64.wrap ((k : Int) - 1) = ((k - 1 : Nat) : Int) := by rw [wrap64 (by omega) (by omega)]; omega
  obtain ⟨x1, x2⟩ := slc_cell ((rSlc rByte).ownrd gp10.o)
  simp (maxSteps := 4000000) (disch := omega) only [ZD, Zio, Zip, pre_, beq_self_eq_true, Nat.reduceBEq, Zq, evO, vbox, wr, Zeq, if_true, if_false, Nat.reduceEqDiff, Nat.reduceAdd, Nat.reduceLeDiff, Nat.reduceSub, and_self, and_true, true_and, reduceIte, reduceCtorEq, eq_self, implies_true, forall_const, false_implies, imp_self, decide_true, decide_false, fix_nil, fix_cons, g1, g2, g3, g4, g4b, g5, g5b, t0, t2, t3, t4, g6, g6b, g7, g7b, g8, g8b, g9, g9b, g10, g10b, GD_app, hyw, e10, x1, x2, hw2]
  have out : ∀ a, a ∉ F → a < H9.nxt → a ∉ F10 := fun a h1 h2 hm => by
    rcases f10 a hm with h | h | h
    · exact h1 h
    · cases h
    · omega
  have qF' := out q qF (by omega)
  refine ⟨⟨by omega, by omega⟩, k - 1, by omega, rfl, u, body ++ [y], F10, rfl, gp10.set (by omega) qF', qF', by omega, out _ bF (by omega), by simp; omega, fun x hx => ?_⟩
  rcases List.mem_append.1 hx with h | h
  · exact hbB x h
  · rw [List.mem_singleton.1 h]; exact hy
theorem r_spec_DrawRightTelegram (hb : Bts' H v code) (hl : code.length ≤ 1048576) (hc : ∀ x ∈ code, 0 ≤ x ∧ x ≤ 255) : Run Tryd.prog 7 [v] H fun r H' => Keep H H' ∧ ∃ (a b : Nat) (body : List Int) (w : Value), r = .agg #[.int .i64 a, .int .i64 b, w] ∧ a < 256 ∧ b < 16 ∧ body.length ≤ 6 ∧ (∀ x ∈ body, isB x) ∧ Bts H' w body := by
  refine Run.intro c7 rfl ?_
  simp (maxSteps := 4000000) (disch := omega) only [Zq, evO, vbox, wr, Zeq, if_true, if_false, Nat.reduceEqDiff, Nat.reduceAdd, Nat.reduceLeDiff, Nat.reduceSub, and_self, and_true, true_and, reduceIte, reduceCtorEq, eq_self, implies_true, forall_const, false_implies, imp_self, decide_true, decide_false, x7]
  generalize hG1 : H.push [Value.int .i64 0, .int .i64 0, .slice none 0 0] = H1
  have k1 : Keep H H1 := by rw [← hG1]; exact Keep.push _ _
  have n1 : H1.nxt = H.nxt + 1 := by rw [← hG1, Zbg]
  have g1 : H1.get H.nxt = some (.own [.int .i64 0, .int .i64 0, .slice none 0 0]) := by rw [← hG1, push_get', if_pos rfl]
  clear hG1
  refine GO_call ((r_spec_l01New hb hl k1).mono ?_)
  rintro _ H2 ⟨k2, p, rfl, hp, cu⟩
  have n2 := k2.nxt
  have g2 := (k2.get H.nxt (by omega)).trans g1
  simp (maxSteps := 4000000) (disch := omega) only [Zq, evO, vbox, wr, Zeq, if_true, if_false, Nat.reduceEqDiff, Nat.reduceAdd, Nat.reduceLeDiff, Nat.reduceSub, and_self, and_true, true_and, reduceIte, reduceCtorEq, eq_self, implies_true, forall_const, false_implies, imp_self, decide_true, decide_false, fix_nil, fix_cons, g1, g2]
  refine GO_call ((r_spec_l20DrawRight hb hl hc cu (k1.trans k2)).mono ?_)
  rintro _ H3 ⟨c3, u3, a, b, body, w, rfl, ha, hb3, hbl, hbB, F, oF, hF⟩
  have hw := bts_of ((rSlc rByte).ownrd oF)
  have n3 := c3.nxt
  have g3 := (c3.get H.nxt (by omega) (by simp; omega)).trans g2
  have x1 := Sl.noTup_ hw
  have x2 := Sl.cells_ hw
  simp (maxSteps := 4000000) (disch := omega) only [Zq, evO, vbox, wr, Zeq, if_true, if_false, Nat.reduceEqDiff, Nat.reduceAdd, Nat.reduceLeDiff, Nat.reduceSub, and_self, and_true, true_and, reduceIte, reduceCtorEq, eq_self, implies_true, forall_const, false_implies, imp_self, decide_true, decide_false, fix_nil, fix_cons, g1, g2, g3, x1, x2]
  have kk : Keep H H3 := c3.keep (k1.trans k2) (fun i hi => by simp at hi; omega)
  refine ⟨kk.set' (Nat.le_refl _), a, b, body, w, rfl, ha, hb3, hbl, hbB, ?_⟩
  exact bts_of ((rSlc rByte).ownrd ((rSlc rByte).ownk oF (by rw [Zbh]; exact Nat.le_refl _) (fun a ha => by rw [Zbi, if_neg (by have := hF a ha; omega)])))
end
end Go.Proofs.YtiajbefljkikiaaDoor.AX
