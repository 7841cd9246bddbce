/- Telegrams as they are drawn. No condition beyond each law's own; of the program: the functions' forms. -/
import Derived.Test.YtiajbefljkikiaaAfp
import Derived.Test.YtiajbefljkikiaaGpd
namespace Go.Proofs.Ytiajbefljkikiaa.AX
open Go
set_option maxRecDepth 10000
set_option maxHeartbeats 4000000
set_option linter.unusedSimpArgs false
set_option linter.unusedVariables false
section
variable {B : Heap} {v : Value} {code : List Int} {p : Nat} {H : Heap}
theorem ints_lit {xs : List Int} : Ints (H.push (xs.map (Value.int .i64))) (.slice (some ⟨H.nxt, 0, none⟩) xs.length 1) xs :=
  sl_own (by rw [Zbg]; omega) (by rw [push_get', if_pos rfl]) (by simp)
theorem GP.set {α : Type} {r : Rep α} {H1 : Heap} {w : Value} {xs : List α} {F : List Nat} {q : Nat} {cs : List Value} (h : GP r B v code p H H1 w xs F) (hq : H.nxt ≤ q) (hF : q ∉ F) : GP r B v code p H (H1.set q cs) w xs F :=
  have pl := h.pl
  ⟨⟨by rw [Zbh]; exact h.chg.nxt, fun a ha hm => by rw [Zbi, if_neg (by omega)]; exact h.chg.get a ha hm⟩, cur_ch (G := [q]) h.cur (by rw [Zbh]; exact Nat.le_refl _) (fun a ha hm => by rw [Zbi, if_neg (by simpa using hm)]) (fun a ha => by simp at ha; have := h.cur.2.1; omega) (by simp; omega), pl, (rSlc r).ownk h.o (by rw [Zbh]; exact Nat.le_refl _) (fun a ha => by rw [Zbi, if_neg (fun e => by subst e; exact hF ha)]), h.nd, h.fr⟩
theorem r_spec_l20DrawList (hb : Bts' B v code) (hl : code.length ≤ 1048576) (hc : ∀ x ∈ code, 0 ≤ x ∧ x ≤ 255) (c : Cur B v code H p) (kB : Keep B H) : Run Try.prog 63 [ptr p 0, v] H fun r H' => Chg [p] H H' ∧ Cur B v code H' p ∧ ∃ ts F, (rSlc rTelegram).own H' [r] ts F ∧ F.Nodup ∧ (∀ a ∈ F, H.nxt ≤ a) ∧ (∀ t ∈ ts, drT t) ∧ ts.length ≤ 17 := by
  refine Run.intro c63 rfl ?_
  simp (maxSteps := 4000000) (disch := omega) only [Zq, evO, vbox, wr, Zeq, if_true, if_false, Nat.reduceEqDiff, Nat.reduceAdd, Nat.reduceLeDiff, Nat.reduceSub, and_self, and_true, true_and, reduceIte, reduceCtorEq, eq_self, implies_true, forall_const, false_implies, imp_self, decide_true, decide_false, x63]
  have gp0 := GP.new (r := rTelegram) (sz := 3) c rfl
  generalize hG1 : H.push [] = H1 at gp0
  have k1 : Keep H H1 := by rw [← hG1]; exact Keep.push _ _
  have n1 : H1.nxt = H.nxt + 1 := by rw [← hG1, Zbg]
  refine GO_call ((r_spec_l01Size (n := 16) (IntsK.keep hb (kB.trans k1)) hl (by omega)).mono ?_)
  rintro _ H2 ⟨k2, z2, hz2, rfl⟩
  have n2 := k2.nxt
  have gp2 := gp0.keep k2
  have hw : IntKind.i64.wrap (2 + (z2 : Int)) = ((2 + z2 : Nat) : Int) := by rw [wrap64 (by omega) (by omega)]; omega
  simp (maxSteps := 4000000) (disch := omega) only [Zq, evO, vbox, wr, Zeq, if_true, if_false, Nat.reduceEqDiff, Nat.reduceAdd, Nat.reduceLeDiff, Nat.reduceSub, and_self, and_true, true_and, reduceIte, reduceCtorEq, eq_self, implies_true, forall_const, false_implies, imp_self, decide_true, decide_false, fix_nil, fix_cons, hw]
  refine GO_call ((r_spec_l01Below hb hl hc gp2.cur (by omega : 1 ≤ 2 + z2) (by omega)).mono ?_)
  rintro _ H3 ⟨c3, u3, z3, rfl, hz3⟩
  have gp3 := gp2.mv c3 u3
  simp (maxSteps := 4000000) (disch := omega) only [Zq, evO, vbox, wr, Zeq, if_true, if_false, Nat.reduceEqDiff, Nat.reduceAdd, Nat.reduceLeDiff, Nat.reduceSub, and_self, and_true, true_and, reduceIte, reduceCtorEq, eq_self, implies_true, forall_const, false_implies, imp_self, decide_true, decide_false, fix_nil, fix_cons]
  refine G_loopF [0] (z3) (fun k T H4 => T 7 = .int .i64 (k : Int) ∧ ∃ (w : Value) (ts : List Tel) (F : List Nat) (s : Nat), T 5 = w ∧ T 6 = .int .i64 (s : Int) ∧ s ≤ 255 ∧ GP rTelegram B v code p H H4 w ts F ∧ (∀ t ∈ ts, drT t) ∧ ts.length + k ≤ 17) ?_ ?_
  · simp (maxSteps := 4000000) (disch := omega) only [Zq, evO, vbox, wr, Zeq, if_true, if_false, Nat.reduceEqDiff, Nat.reduceAdd, Nat.reduceLeDiff, Nat.reduceSub, and_self, and_true, true_and, reduceIte, reduceCtorEq, eq_self, implies_true, forall_const, false_implies, imp_self, decide_true, decide_false, fix_nil, fix_cons]
    exact ⟨_, [], _, 0, rfl, rfl, by omega, gp3, fun t ht => (by cases ht), by simp; omega⟩
  rintro k T H4 hT ⟨t7, w, ts, F, s, t5, t6, hs, gp4, hts, hlen⟩
  simp only [fix_nil, fix_cons, Zq, evO, vbox, wr, Zeq, if_true, if_false, Nat.reduceEqDiff, Nat.reduceAdd, Nat.reduceLeDiff, Nat.reduceSub, and_self, and_true, true_and, reduceIte, reduceCtorEq, eq_self, implies_true, forall_const, false_implies, imp_self, decide_true, decide_false] at hT
  have t0 := hT
  by_cases hk : (0 : Int) < k
  rotate_left
  · obtain ⟨x1, x2⟩ := slc_cell ((rSlc rTelegram).ownrd gp4.o)
    simp (maxSteps := 4000000) (disch := omega) only [Zq, evO, vbox, wr, Zeq, if_true, if_false, Nat.reduceEqDiff, Nat.reduceAdd, Nat.reduceLeDiff, Nat.reduceSub, and_self, and_true, true_and, reduceIte, reduceCtorEq, eq_self, implies_true, forall_const, false_implies, imp_self, decide_true, decide_false, fix_nil, fix_cons, t0, t7, t5, t6, Zfi hk, x1, x2]
    exact ⟨gp4.chg, gp4.cur, ts, F, gp4.o, gp4.nd, gp4.fr, hts, by omega⟩
  simp (maxSteps := 4000000) (disch := omega) only [Zq, evO, vbox, wr, Zeq, if_true, if_false, Nat.reduceEqDiff, Nat.reduceAdd, Nat.reduceLeDiff, Nat.reduceSub, and_self, and_true, true_and, reduceIte, reduceCtorEq, eq_self, implies_true, forall_const, false_implies, imp_self, decide_true, decide_false, fix_nil, fix_cons, t0, t7, t5, t6, Zfh hk]
  refine GO_call ((r_spec_l01Below (n := 6) hb hl hc gp4.cur (by omega) (by omega)).mono ?_)
  rintro _ H5 ⟨c5, u5, z5, rfl, hz5⟩
  have gp5 := gp4.mv c5 u5
  simp (maxSteps := 4000000) (disch := omega) only [Zq, evO, vbox, wr, Zeq, if_true, if_false, Nat.reduceEqDiff, Nat.reduceAdd, Nat.reduceLeDiff, Nat.reduceSub, and_self, and_true, true_and, reduceIte, reduceCtorEq, eq_self, implies_true, forall_const, false_implies, imp_self, decide_true, decide_false, fix_nil, fix_cons, t0, t7, t5, t6]
  obtain ⟨xs, hxs⟩ : ∃ xs : List Int, xs = [1, 1, 1, 2, 2, 2, 3, (z5 : Int)] := ⟨_, rfl⟩
  have hI : Ints (H5.push (xs.map (Value.int .i64))) (.slice (some ⟨H5.nxt, 0, none⟩) xs.length 1) xs := ints_lit
  have hx8 : xs.length = 8 := by rw [hxs]; rfl
  have hxb : ∀ x ∈ xs, 0 ≤ x ∧ x ≤ 15 := by rw [hxs]; intro x hx; simp at hx; omega
  have hmap : xs.map (Value.int .i64) = [.int .i64 1, .int .i64 1, .int .i64 1, .int .i64 2, .int .i64 2, .int .i64 2, .int .i64 3, .int .i64 z5] := by rw [hxs]; rfl
  rw [hx8] at hI
  rw [hmap] at hI
  generalize hG6 : H5.push [Value.int .i64 1, .int .i64 1, .int .i64 1, .int .i64 2, .int .i64 2, .int .i64 2, .int .i64 3, .int .i64 z5] = H6 at hI
  have k6 : Keep H5 H6 := by rw [← hG6]; exact Keep.push _ _
  have gp6 := gp5.keep k6
  have pl5 := gp5.cur.2.2.1
  refine GO_call ((r_spec_l01PickInt hb hl hc gp6.cur hI (by show H5.nxt ≠ p; omega) (by omega) (by omega)).mono ?_)
  rintro _ H7 ⟨c7, u7, z7, hz7, rfl⟩
  have gp7 := gp6.mv c7 u7
  have hkd := hxb (xs.getD z7 0) (by rw [getD_get _ _ hz7]; exact List.getElem_mem hz7)
  generalize xs.getD z7 0 = kd at hkd
  clear hI hG6 hmap hxb hx8 hz7
  simp (maxSteps := 4000000) (disch := omega) only [Zq, evO, vbox, wr, Zeq, if_true, if_false, Nat.reduceEqDiff, Nat.reduceAdd, Nat.reduceLeDiff, Nat.reduceSub, and_self, and_true, true_and, reduceIte, reduceCtorEq, eq_self, implies_true, forall_const, false_implies, imp_self, decide_true, decide_false, fix_nil, fix_cons, t0, t7, t5, t6]
  generalize hG8 : (H7.push [.int .i64 0, .int .i64 0, .slice none 0 0]).set H7.nxt [.int .i64 s, .int .i64 kd, .slice none 0 0] = H8
  have k8 : Keep H7 H8 := by rw [← hG8]; repeat' (first | exact Keep.refl _ | assumption | refine Keep.push' ?_ | refine Keep.set' ?_ ?_ | refine Keep.moved' ?_ ?_ | omega)
  have g8 : H8.get H7.nxt = some (.own [.int .i64 s, .int .i64 kd, .slice none 0 0]) := by rw [← hG8, Zbi, if_pos rfl]
  have n8 : H8.nxt = H7.nxt + 1 := by rw [← hG8, Zbh, Zbg]
  have gp8 := gp7.keep k8
  refine GO_call ((r_spec_l01Once (n := 9) hb hl hc gp8.cur (by omega) (by omega)).mono ?_)
  rintro _ H9 ⟨c9, u9, on, rfl⟩
  have gp9 := gp8.mv c9 u9
  have pl7 := gp7.cur.2.2.1
  have g9 := (c9.get H7.nxt (by omega) (by simp; omega)).trans g8
  have n9 := c9.nxt
  have hF7 : ∀ a ∈ F, a < H7.nxt := (rSlc rTelegram).ownlt gp7.o
  have nn := gp7.chg.nxt
  simp (maxSteps := 4000000) (disch := omega) only [Zq, evO, vbox, wr, Zeq, if_true, if_false, Nat.reduceEqDiff, Nat.reduceAdd, Nat.reduceLeDiff, Nat.reduceSub, and_self, and_true, true_and, reduceIte, reduceCtorEq, eq_self, implies_true, forall_const, false_implies, imp_self, decide_true, decide_false, fix_nil, fix_cons, t0, t7, t5, t6, g8, g9]
  first | refine cK_cut (fun T HE => T 0 = ptr p 0 ∧ T 5 = w ∧ T 6 = .int .i64 (s : Int) ∧ T 7 = .int .i64 (k : Int) ∧ T 8 = ptr H7.nxt 0 ∧ GP rTelegram B v code p H HE w ts F ∧ ∃ bv body G, HE.get H7.nxt = some (.own [.int .i64 s, .int .i64 kd, bv]) ∧ (rSlc rByte).own HE [bv] body G ∧ G.Nodup ∧ (∀ a ∈ G, H7.nxt < a) ∧ body.length ≤ 1 ∧ (∀ x ∈ body, 0 ≤ x ∧ x ≤ 255) ∧ noTup bv = true ∧ vcells bv = [bv]) ?_ ?_ | refine G_cut (fun T HE => T 0 = ptr p 0 ∧ T 5 = w ∧ T 6 = .int .i64 (s : Int) ∧ T 7 = .int .i64 (k : Int) ∧ T 8 = ptr H7.nxt 0 ∧ GP rTelegram B v code p H HE w ts F ∧ ∃ bv body G, HE.get H7.nxt = some (.own [.int .i64 s, .int .i64 kd, bv]) ∧ (rSlc rByte).own HE [bv] body G ∧ G.Nodup ∧ (∀ a ∈ G, H7.nxt < a) ∧ body.length ≤ 1 ∧ (∀ x ∈ body, 0 ≤ x ∧ x ≤ 255) ∧ noTup bv = true ∧ vcells bv = [bv]) ?_ ?_ | refine GO_cut (fun T HE => T 0 = ptr p 0 ∧ T 5 = w ∧ T 6 = .int .i64 (s : Int) ∧ T 7 = .int .i64 (k : Int) ∧ T 8 = ptr H7.nxt 0 ∧ GP rTelegram B v code p H HE w ts F ∧ ∃ bv body G, HE.get H7.nxt = some (.own [.int .i64 s, .int .i64 kd, bv]) ∧ (rSlc rByte).own HE [bv] body G ∧ G.Nodup ∧ (∀ a ∈ G, H7.nxt < a) ∧ body.length ≤ 1 ∧ (∀ x ∈ body, 0 ≤ x ∧ x ≤ 255) ∧ noTup bv = true ∧ vcells bv = [bv]) ?_ ?_
  · cases on with
    | true =>
      simp (maxSteps := 4000000) (disch := omega) only [Zq, evO, vbox, wr, Zeq, if_true, if_false, Nat.reduceEqDiff, Nat.reduceAdd, Nat.reduceLeDiff, Nat.reduceSub, and_self, and_true, true_and, reduceIte, reduceCtorEq, eq_self, implies_true, forall_const, false_implies, imp_self, decide_true, decide_false, fix_nil, fix_cons, t0, t7, t5, t6, g8, g9]
      exact ⟨gp9, _, [], [], rfl, .inl ⟨rfl, rfl, rfl⟩, by simp, by simp, by simp, by simp, rfl, rfl⟩
    | false =>
      simp (maxSteps := 4000000) (disch := omega) only [Zq, evO, vbox, wr, Zeq, if_true, if_false, Nat.reduceEqDiff, Nat.reduceAdd, Nat.reduceLeDiff, Nat.reduceSub, and_self, and_true, true_and, reduceIte, reduceCtorEq, eq_self, implies_true, forall_const, false_implies, imp_self, decide_true, decide_false, fix_nil, fix_cons, t0, t7, t5, t6, g8, g9]
      simp (maxSteps := 4000000) (disch := omega) only [ZD, Zio, Zip, pre_, beq_self_eq_true, Nat.reduceBEq, Zq, evO, vbox, wr, Zeq, if_true, if_false, Nat.reduceEqDiff, Nat.reduceAdd, Nat.reduceLeDiff, Nat.reduceSub, and_self, and_true, true_and, reduceIte, reduceCtorEq, eq_self, implies_true, forall_const, false_implies, imp_self, decide_true, decide_false, fix_nil, fix_cons, t0, t7, t5, t6, g8, g9, G_dreg]
      refine GD_call ((r_spec_l01Below (n := 9) hb hl hc gp9.cur (by omega) (by omega)).mono ?_)
      rintro _ H10 ⟨c10, u10, z10, rfl, hz10⟩
      have pl9 := gp9.cur.2.2.1
      have g10 := (c10.get H7.nxt (by omega) (by simp; omega)).trans g9
      have gp10 := gp9.mv c10 u10
      have n10 := c10.nxt
      have hu : IntKind.u8.wrap (z10 : Int) = (z10 : Int) := by rw [wrap8, Nat.mod_eq_of_lt (by omega)]
      obtain ⟨u, H11, F11, e11, o11, c11, f11, nd11, _⟩ := own_app (bytes := 1) (r := rByte) (sz := 1) rfl (by omega) (xs := []) (F := []) (H := H10) (v := .slice none 0 0) (.inl ⟨rfl, rfl, rfl⟩) (row := [.int .u8 z10]) (y := (z10 : Int)) (G := []) ⟨rfl, rfl⟩ (by simp) (by simp) (by simp) (by simp)
      have n11 := c11.nxt
      have k11 : Keep H10 H11 := ⟨n11, fun a ha => c11.get a ha (by simp)⟩
      have gp11 := gp10.keep k11
      have g11 := (k11.get H7.nxt (by omega)).trans g10
      obtain ⟨x1, x2⟩ := slc_cell ((rSlc rByte).ownrd o11)
      have f11' : ∀ a ∈ F11, H7.nxt < a := fun a ha => by
        rcases f11 a ha with h | h | h
        · cases h
        · cases h
        · omega
      simp (maxSteps := 4000000) (disch := omega) only [ZD, Zio, Zip, pre_, beq_self_eq_true, Nat.reduceBEq, Zq, evO, vbox, wr, Zeq, if_true, if_false, Nat.reduceEqDiff, Nat.reduceAdd, Nat.reduceLeDiff, Nat.reduceSub, and_self, and_true, true_and, reduceIte, reduceCtorEq, eq_self, implies_true, forall_const, false_implies, imp_self, decide_true, decide_false, fix_nil, fix_cons, t0, t7, t5, t6, g8, g9, g10, g11, GD_app, hu, e11, x1, x2]
      first | with_reducible refine And.intro (by repeat' (first | apply And.intro | omega | exact c11.get _ (by omega))) ?_ | skip
      have gpE := gp11.set (q := H7.nxt) (cs := [.int .i64 s, .int .i64 kd, u]) nn (fun h => by have := hF7 _ h; omega)
      exact ⟨gpE, u, [(z10 : Int)], F11, rfl, (rSlc rByte).ownk o11 (by rw [Zbh]; exact Nat.le_refl _) (fun a ha => by rw [Zbi, if_neg (by have := f11' a ha; omega)]), nd11, f11', by simp, by simp; omega, x2, x1⟩
  rintro T HE ⟨t0, t5, t6, t7, t8, gpE, bv, body, G, gE, oB, ndG, hG, hbl, hbx, nb, vb⟩
  have nE := gpE.chg.nxt
  obtain ⟨u, H12, F12, e12, gp12, n12, old12⟩ := gpE.app (bytes := 40) (sz := 3) rfl (by omega) (row := [.int .i64 s, .int .i64 kd, bv]) (y := ((s : Int), kd, body)) (G := G) (telegram_own' oB) ndG (fun a ha => ⟨by have := hG a ha; omega, fun h => by have := hG a ha; have := hF7 a h; omega⟩) (by omega)
  simp (maxSteps := 4000000) (disch := omega) only [Zq, evO, vbox, wr, Zeq, if_true, if_false, Nat.reduceEqDiff, Nat.reduceAdd, Nat.reduceLeDiff, Nat.reduceSub, and_self, and_true, true_and, reduceIte, reduceCtorEq, eq_self, implies_true, forall_const, false_implies, imp_self, decide_true, decide_false, fix_nil, fix_cons, t0, t7, t5, t6, g8, g9, t8, gE, e12]
  obtain ⟨ys, hys⟩ : ∃ ys : List Int, ys = [1, 1, 1, 1, 1, 1, 0, 2] := ⟨_, rfl⟩
  have hJ : Ints (H12.push (ys.map (Value.int .i64))) (.slice (some ⟨H12.nxt, 0, none⟩) ys.length 1) ys := ints_lit
  have hy8 : ys.length = 8 := by rw [hys]; rfl
  have hyb : ∀ x ∈ ys, 0 ≤ x ∧ x ≤ 2 := by rw [hys]; intro x hx; simp at hx; omega
  have hmap : ys.map (Value.int .i64) = [.int .i64 1, .int .i64 1, .int .i64 1, .int .i64 1, .int .i64 1, .int .i64 1, .int .i64 0, .int .i64 2] := by rw [hys]; rfl
  rw [hy8] at hJ
  rw [hmap] at hJ
  generalize hG13 : H12.push [Value.int .i64 1, .int .i64 1, .int .i64 1, .int .i64 1, .int .i64 1, .int .i64 1, .int .i64 0, .int .i64 2] = H13 at hJ
  have k13 : Keep H12 H13 := by rw [← hG13]; exact Keep.push _ _
  have gp13 := gp12.keep k13
  have pl12 := gp12.cur.2.2.1
  refine GO_call ((r_spec_l01PickInt hb hl hc gp13.cur hJ (by show H12.nxt ≠ p; omega) (by omega) (by omega)).mono ?_)
  rintro _ H14 ⟨c14, u14, z14, hz14, rfl⟩
  have gp14 := gp13.mv c14 u14
  have hyd := hyb (ys.getD z14 0) (by rw [getD_get _ _ hz14]; exact List.getElem_mem hz14)
  obtain ⟨e, he⟩ : ∃ e : Nat, ys.getD z14 0 = e := ⟨(ys.getD z14 0).toNat, by omega⟩
  rw [he] at hyd ⊢
  have hw1 : IntKind.i64.wrap ((s : Int) + e) = ((s + e : Nat) : Int) := by rw [wrap64 (by omega) (by omega)]; omega
  have hr : abin .rem (.int .i64 ((s + e : Nat) : Int)) (.int .i64 256) = some (.int .i64 (((s + e) % 256 : Nat) : Int)) := by
    rw [abin_rem (by decide), Int.tmod_eq_emod_of_nonneg (by omega)]; rfl
  have hw2 : IntKind.i64.wrap ((k : Int) - 1) = ((k - 1 : Nat) : Int) := by rw [wrap64 (by omega) (by omega)]; omega
  simp (maxSteps := 4000000) (disch := omega) only [Zq, evO, vbox, wr, Zeq, if_true, if_false, Nat.reduceEqDiff, Nat.reduceAdd, Nat.reduceLeDiff, Nat.reduceSub, and_self, and_true, true_and, reduceIte, reduceCtorEq, eq_self, implies_true, forall_const, false_implies, imp_self, decide_true, decide_false, fix_nil, fix_cons, t0, t7, t5, t6, g8, g9, t8, hw1, hr, hw2]
  exact ⟨k - 1, by omega, rfl, _, _, _, _, rfl, rfl, by omega, gp14, fun t ht => by
    rcases List.mem_append.1 ht with ht | ht
    · exact hts t ht
    · simp only [List.mem_singleton] at ht
      subst ht
      exact ⟨by omega, by omega, hkd.1, hkd.2, hbl, hbx⟩, by simp; omega⟩
theorem r_spec_DrawRightTelegrams (hb : Bts' H v code) (hl : code.length ≤ 1048576) (hc : ∀ x ∈ code, 0 ≤ x ∧ x ≤ 255) : Run Try.prog 16 [v] H fun r H' => Keep H H' ∧ ∃ ts, (rSlc rTelegram).rd H' [r] ts ∧ (∀ t ∈ ts, drT t) ∧ ts.length ≤ 17 := by
  refine Run.intro c16 rfl ?_
  simp (maxSteps := 4000000) (disch := omega) only [Zq, evO, vbox, wr, Zeq, if_true, if_false, Nat.reduceEqDiff, Nat.reduceAdd, Nat.reduceLeDiff, Nat.reduceSub, and_self, and_true, true_and, reduceIte, reduceCtorEq, eq_self, implies_true, forall_const, false_implies, imp_self, decide_true, decide_false, x16]
  refine GO_call ((r_spec_l01New hb hl (Keep.refl H)).mono ?_)
  rintro _ H1 ⟨k1, p, rfl, hp, cu⟩
  simp (maxSteps := 4000000) (disch := omega) only [Zq, evO, vbox, wr, Zeq, if_true, if_false, Nat.reduceEqDiff, Nat.reduceAdd, Nat.reduceLeDiff, Nat.reduceSub, and_self, and_true, true_and, reduceIte, reduceCtorEq, eq_self, implies_true, forall_const, false_implies, imp_self, decide_true, decide_false, fix_nil, fix_cons]
  refine GO_call ((r_spec_l20DrawList hb hl hc cu k1).mono ?_)
  rintro r H2 ⟨c2, u2, ts, F, o2, nd, f2, hts, hlen⟩
  obtain ⟨x1, x2⟩ := slc_cell ((rSlc rTelegram).ownrd o2)
  simp (maxSteps := 4000000) (disch := omega) only [Zq, evO, vbox, wr, Zeq, if_true, if_false, Nat.reduceEqDiff, Nat.reduceAdd, Nat.reduceLeDiff, Nat.reduceSub, and_self, and_true, true_and, reduceIte, reduceCtorEq, eq_self, implies_true, forall_const, false_implies, imp_self, decide_true, decide_false, fix_nil, fix_cons, x1, x2]
  exact ⟨c2.keep k1 (fun i hi => by simp at hi; omega), ts, (rSlc rTelegram).ownrd o2, hts, hlen⟩
end
end Go.Proofs.Ytiajbefljkikiaa.AX
