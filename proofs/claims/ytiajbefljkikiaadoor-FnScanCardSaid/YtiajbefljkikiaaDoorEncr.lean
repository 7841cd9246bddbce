/- Encode and the checks of telegrams: the executor's runs, of the program's and of the reference's. No condition beyond each law's own; of the program: the functions' forms. -/
import Derived.Test.YtiajbefljkikiaaDoorAxl
import Derived.Test.YtiajbefljkikiaaDoorAXzf
namespace Go.Proofs.YtiajbefljkikiaaDoor.AX
open Go
set_option maxRecDepth 10000
set_option maxHeartbeats 4000000
set_option linter.unusedSimpArgs false
set_option linter.unusedVariables false
def xorI (k : IntKind) (a b : Int) : Int := k.wrap (BitVec.ofInt k.bits a ^^^ BitVec.ofInt k.bits b).toNat
theorem abin_xor {k : IntKind} {a b : Int} : abin .xor (.int k a) (.int k b) = some (.int k (xorI k a b)) := by simp [abin, intOp, xorI]
/-- One bit more of the check. -/
def crcB (x : Int) : Int := if 255 < IntKind.i64.wrap (x * 2) then xorI .i64 (IntKind.i64.wrap (IntKind.i64.wrap (x * 2) - 256)) 7 else IntKind.i64.wrap (x * 2)
def iter8 (x : Int) : Nat → Int
  | 0 => x
  | i + 1 => crcB (iter8 x i)
def crcS (x b : Int) : Int := iter8 (xorI .i64 x (IntKind.i64.wrap b)) 8
def crcL (xs : List Int) : Int := xs.foldl crcS 0
def crcR (xs : List Int) : Int := if xs.length ≤ 3000 then crcL xs else 0
theorem crcL_succ {xs : List Int} {i : Nat} (h : i < xs.length) : crcL (xs.take (i + 1)) = crcS (crcL (xs.take i)) (xs.getD i 0) := by
  unfold crcL
  rw [List.take_add_one, List.foldl_append, List.getElem?_eq_getElem h]
  have e : xs.getD i 0 = xs[i] := by simp [List.getD, List.getElem?_eq_getElem h]
  rw [e]; rfl
theorem r_impl_Crc8 {H : Heap} {v : Value} {xs : List Int} (h : Bts H v xs) (hl : xs.length ≤ 4611686018427387904) : Run Tryd.prog 14 [v] H fun r H' => Keep H H' ∧ r = .int .i64 (crcR xs) := by
  refine Run.intro c14 rfl ?_
  by_cases h3 : xs.length ≤ 3000
  · simp (maxSteps := 4000000) (disch := omega) only [Zq, evO, vbox, wr, Zeq, if_true, if_false, Nat.reduceEqDiff, Nat.reduceAdd, Nat.reduceLeDiff, Nat.reduceSub, and_self, and_true, true_and, reduceIte, reduceCtorEq, eq_self, implies_true, forall_const, false_implies, imp_self, decide_true, decide_false, x14, h.len_]
    refine G_for xs.length (fun i T H1 => T 9 = v ∧ T 10 = .int .i64 (xs.length : Int) ∧ T 11 = .int .i64 (i : Int) ∧ T 3 = .int .i64 (crcL (xs.take i)) ∧ Keep H H1) 0 (Nat.zero_le _) ?_ ?_
    · simp (maxSteps := 4000000) (disch := omega) only [Zq, evO, vbox, wr, Zeq, if_true, if_false, Nat.reduceEqDiff, Nat.reduceAdd, Nat.reduceLeDiff, Nat.reduceSub, and_self, and_true, true_and, reduceIte, reduceCtorEq, eq_self, implies_true, forall_const, false_implies, imp_self, decide_true, decide_false]
      exact ⟨rfl, Keep.refl _⟩
    · rintro i T H1 hi ⟨t9, t10, t11, t3, k1⟩
      have h1 := h.keep k1
      by_cases hin : i < xs.length
      · simp (maxSteps := 4000000) (disch := omega) only [Zq, evO, vbox, wr, Zeq, if_true, if_false, Nat.reduceEqDiff, Nat.reduceAdd, Nat.reduceLeDiff, Nat.reduceSub, and_self, and_true, true_and, reduceIte, reduceCtorEq, eq_self, implies_true, forall_const, false_implies, imp_self, decide_true, decide_false, t9, t10, t11, t3, h1.idx hin, h1.ld hin, abin_xor]
        refine G_for 8 (fun j T2 H2 => T2 9 = v ∧ T2 10 = .int .i64 (xs.length : Int) ∧ T2 11 = .int .i64 (i : Int) ∧ T2 19 = .int .i64 (j : Int) ∧ T2 3 = .int .i64 (iter8 (xorI .i64 (crcL (xs.take i)) (IntKind.i64.wrap (xs.getD i 0))) j) ∧ H2 = H1) 0 (Nat.zero_le _) ?_ ?_
        · simp (maxSteps := 4000000) (disch := omega) only [Zq, evO, vbox, wr, Zeq, if_true, if_false, Nat.reduceEqDiff, Nat.reduceAdd, Nat.reduceLeDiff, Nat.reduceSub, and_self, and_true, true_and, reduceIte, reduceCtorEq, eq_self, implies_true, forall_const, false_implies, imp_self, decide_true, decide_false, t9, t10, t11]
          rfl
        · rintro j T2 H2 hj ⟨t29, t210, t211, t219, t23, rfl⟩
          by_cases hj8 : j < 8
          · by_cases hc : 255 < IntKind.i64.wrap (iter8 (xorI .i64 (crcL (xs.take i)) (IntKind.i64.wrap (xs.getD i 0))) j * 2)
            · simp (maxSteps := 4000000) (disch := omega) only [Zq, evO, vbox, wr, Zeq, if_true, if_false, Nat.reduceEqDiff, Nat.reduceAdd, Nat.reduceLeDiff, Nat.reduceSub, and_self, and_true, true_and, reduceIte, reduceCtorEq, eq_self, implies_true, forall_const, false_implies, imp_self, decide_true, decide_false, t29, t210, t211, t219, t23, hc, abin_xor]
              exact ⟨hj8, by rw [iter8, crcB, if_pos hc]⟩
            · simp (maxSteps := 4000000) (disch := omega) only [Zq, evO, vbox, wr, Zeq, if_true, if_false, Nat.reduceEqDiff, Nat.reduceAdd, Nat.reduceLeDiff, Nat.reduceSub, and_self, and_true, true_and, reduceIte, reduceCtorEq, eq_self, implies_true, forall_const, false_implies, imp_self, decide_true, decide_false, t29, t210, t211, t219, t23, hc]
              exact ⟨hj8, by rw [iter8, crcB, if_neg hc]⟩
          · simp (maxSteps := 4000000) (disch := omega) only [Zq, evO, vbox, wr, Zeq, if_true, if_false, Nat.reduceEqDiff, Nat.reduceAdd, Nat.reduceLeDiff, Nat.reduceSub, and_self, and_true, true_and, reduceIte, reduceCtorEq, eq_self, implies_true, forall_const, false_implies, imp_self, decide_true, decide_false, t29, t210, t211, t219, t23]
            obtain rfl : j = 8 := by omega
            exact ⟨hin, by rw [crcL_succ hin]; rfl, k1⟩
      · simp (maxSteps := 4000000) (disch := omega) only [Zq, evO, vbox, wr, Zeq, if_true, if_false, Nat.reduceEqDiff, Nat.reduceAdd, Nat.reduceLeDiff, Nat.reduceSub, and_self, and_true, true_and, reduceIte, reduceCtorEq, eq_self, implies_true, forall_const, false_implies, imp_self, decide_true, decide_false, t9, t10, t11, t3]
        obtain rfl : i = xs.length := by omega
        rw [List.take_length]
        exact ⟨k1, by rw [crcR, if_pos h3]⟩
  · simp (maxSteps := 4000000) (disch := omega) only [Zq, evO, vbox, wr, Zeq, if_true, if_false, Nat.reduceEqDiff, Nat.reduceAdd, Nat.reduceLeDiff, Nat.reduceSub, and_self, and_true, true_and, reduceIte, reduceCtorEq, eq_self, implies_true, forall_const, false_implies, imp_self, decide_true, decide_false, x14, h.len_]
    exact ⟨Keep.refl _, by rw [crcR, if_neg h3]⟩
theorem r_spec_Crc8 {H : Heap} {v : Value} {xs : List Int} (h : Bts H v xs) (hl : xs.length ≤ 4611686018427387904) : Run Tryd.prog 15 [v] H fun r H' => Keep H H' ∧ r = .int .i64 (crcR xs) := by
  refine Run.intro c15 rfl ?_
  by_cases h3 : xs.length ≤ 3000
  · simp (maxSteps := 4000000) (disch := omega) only [Zq, evO, vbox, wr, Zeq, if_true, if_false, Nat.reduceEqDiff, Nat.reduceAdd, Nat.reduceLeDiff, Nat.reduceSub, and_self, and_true, true_and, reduceIte, reduceCtorEq, eq_self, implies_true, forall_const, false_implies, imp_self, decide_true, decide_false, x15, h.len_]
    refine G_for xs.length (fun i T H1 => T 0 = v ∧ T 4 = .int .i64 (i : Int) ∧ T 3 = .int .i64 (crcL (xs.take i)) ∧ Keep H H1) 0 (Nat.zero_le _) ?_ ?_
    · simp (maxSteps := 4000000) (disch := omega) only [Zq, evO, vbox, wr, Zeq, if_true, if_false, Nat.reduceEqDiff, Nat.reduceAdd, Nat.reduceLeDiff, Nat.reduceSub, and_self, and_true, true_and, reduceIte, reduceCtorEq, eq_self, implies_true, forall_const, false_implies, imp_self, decide_true, decide_false]
      exact ⟨rfl, Keep.refl _⟩
    · rintro i T H1 hi ⟨t0, t4, t3, k1⟩
      have h1 := h.keep k1
      by_cases hin : i < xs.length
      · simp (maxSteps := 4000000) (disch := omega) only [Zq, evO, vbox, wr, Zeq, if_true, if_false, Nat.reduceEqDiff, Nat.reduceAdd, Nat.reduceLeDiff, Nat.reduceSub, and_self, and_true, true_and, reduceIte, reduceCtorEq, eq_self, implies_true, forall_const, false_implies, imp_self, decide_true, decide_false, t0, t4, t3, h1.len_, h1.idx hin, h1.ld hin, abin_xor]
        refine G_for 8 (fun j T2 H2 => T2 0 = v ∧ T2 4 = .int .i64 (i : Int) ∧ T2 5 = .int .i64 (j : Int) ∧ T2 3 = .int .i64 (iter8 (xorI .i64 (crcL (xs.take i)) (IntKind.i64.wrap (xs.getD i 0))) j) ∧ H2 = H1) 0 (Nat.zero_le _) ?_ ?_
        · simp (maxSteps := 4000000) (disch := omega) only [Zq, evO, vbox, wr, Zeq, if_true, if_false, Nat.reduceEqDiff, Nat.reduceAdd, Nat.reduceLeDiff, Nat.reduceSub, and_self, and_true, true_and, reduceIte, reduceCtorEq, eq_self, implies_true, forall_const, false_implies, imp_self, decide_true, decide_false, t0, t4]
          rfl
        · rintro j T2 H2 hj ⟨t20, t24, t25, t23, rfl⟩
          by_cases hj8 : j < 8
          · by_cases hc : 255 < IntKind.i64.wrap (iter8 (xorI .i64 (crcL (xs.take i)) (IntKind.i64.wrap (xs.getD i 0))) j * 2)
            · simp (maxSteps := 4000000) (disch := omega) only [Zq, evO, vbox, wr, Zeq, if_true, if_false, Nat.reduceEqDiff, Nat.reduceAdd, Nat.reduceLeDiff, Nat.reduceSub, and_self, and_true, true_and, reduceIte, reduceCtorEq, eq_self, implies_true, forall_const, false_implies, imp_self, decide_true, decide_false, t20, t24, t25, t23, hc, abin_xor]
              exact ⟨hj8, by rw [iter8, crcB, if_pos hc]⟩
            · simp (maxSteps := 4000000) (disch := omega) only [Zq, evO, vbox, wr, Zeq, if_true, if_false, Nat.reduceEqDiff, Nat.reduceAdd, Nat.reduceLeDiff, Nat.reduceSub, and_self, and_true, true_and, reduceIte, reduceCtorEq, eq_self, implies_true, forall_const, false_implies, imp_self, decide_true, decide_false, t20, t24, t25, t23, hc]
              exact ⟨hj8, by rw [iter8, crcB, if_neg hc]⟩
          · simp (maxSteps := 4000000) (disch := omega) only [Zq, evO, vbox, wr, Zeq, if_true, if_false, Nat.reduceEqDiff, Nat.reduceAdd, Nat.reduceLeDiff, Nat.reduceSub, and_self, and_true, true_and, reduceIte, reduceCtorEq, eq_self, implies_true, forall_const, false_implies, imp_self, decide_true, decide_false, t20, t24, t25, t23]
            obtain rfl : j = 8 := by omega
            exact ⟨hin, by rw [crcL_succ hin]; rfl, k1⟩
      · simp (maxSteps := 4000000) (disch := omega) only [Zq, evO, vbox, wr, Zeq, if_true, if_false, Nat.reduceEqDiff, Nat.reduceAdd, Nat.reduceLeDiff, Nat.reduceSub, and_self, and_true, true_and, reduceIte, reduceCtorEq, eq_self, implies_true, forall_const, false_implies, imp_self, decide_true, decide_false, t0, t4, t3, h1.len_]
        obtain rfl : i = xs.length := by omega
        rw [List.take_length]
        exact ⟨k1, by rw [crcR, if_pos h3]⟩
  · simp (maxSteps := 4000000) (disch := omega) only [Zq, evO, vbox, wr, Zeq, if_true, if_false, Nat.reduceEqDiff, Nat.reduceAdd, Nat.reduceLeDiff, Nat.reduceSub, and_self, and_true, true_and, reduceIte, reduceCtorEq, eq_self, implies_true, forall_const, false_implies, imp_self, decide_true, decide_false, x15, h.len_]
    exact ⟨Keep.refl _, by rw [crcR, if_neg h3]⟩
def eB (z : Int) : List Value := [.int .u8 z]
theorem eB_len (z : Int) : (eB z).length = 1 := rfl
theorem fceB (xs : List Int) : fcells eB xs = xs.map (Value.int .u8) := by
  induction xs with
  | nil => rfl
  | cons x xs ih => rw [fcells_cons, ih]; rfl
abbrev EwB := NewF eB 1
theorem Bts.sl {H : Heap} {v : Value} {xs : List Int} (h : Bts H v xs) : Sl H v 1 xs.length (fcells eB xs) := by rw [fceB]; exact h
theorem EwB.bts {H H' : Heap} {v : Value} {xs : List Int} (h : EwB H H' v xs) : Bts H' v xs := by
  have := h.sl eB_len
  rwa [fceB] at this
def EownB (H H' : Heap) (r : Value) (ys : List Int) : Prop := ∃ F, (rSlc rByte).own H' [r] ys F ∧ Fresh H H' F
theorem EwB.eownB {H H' : Heap} {v : Value} {xs : List Int} (h : EwB H H' v xs) : EownB H H' v xs := by
  obtain ⟨p, h1, h2, rfl, h4⟩ := h
  rw [fceB] at h4
  exact ⟨[p], leaf_own0 h2 h4, by simp, by intro i hi; simp at hi; omega⟩
theorem eownB_nil {H H' : Heap} : EownB H H' (.slice none 0 0) [] := ⟨[], .inl ⟨rfl, rfl, rfl⟩, by simp, by simp⟩
def load3 (a b : Int) (l : List Int) : List Int := [IntKind.u8.wrap a, IntKind.u8.wrap b, IntKind.u8.wrap (l.length : Int)]
def loadL (a b : Int) (l : List Int) : List Int := (load3 a b l ++ l) ++ [IntKind.u8.wrap (crcR (load3 a b l ++ l))]
def encB (b : Int) : List Int := if b = 126 ∨ b = 125 then [125, xorI .u8 b 32] else [b]
def encTo (L : List Int) : List Int := (126 : Int) :: L.flatMap encB
def encL (L : List Int) : List Int := encTo L ++ [126]
def encR (a b : Int) (l : List Int) : List Int := if okTel a b l.length = true then encL (loadL a b l) else []
theorem encB_le (b : Int) : (encB b).length ≤ 2 := by unfold encB; split <;> simp
theorem flat_le (L : List Int) : (L.flatMap encB).length ≤ 2 * L.length := by
  induction L with
  | nil => simp
  | cons x L ih => rw [List.flatMap_cons, List.length_append, List.length_cons]; have := encB_le x; omega
theorem encTo_le (L : List Int) : (encTo L).length ≤ 2 * L.length + 1 := by
  have := flat_le L
  rw [encTo, List.length_cons]; omega
theorem loadL_len (a b : Int) (l : List Int) : (loadL a b l).length = l.length + 4 := by simp [loadL, load3]
theorem encR_len (a b : Int) (l : List Int) : (encR a b l).length ≤ 200 := by
  unfold encR
  split
  · rename_i h
    simp only [okTel, Bool.and_eq_true, decide_eq_true_eq] at h
    have h1 := encTo_le (loadL a b l)
    rw [loadL_len] at h1
    unfold encL
    rw [List.length_append, List.length_singleton]
    omega
  · simp
theorem encTo_succ {L : List Int} {i : Nat} (h : i < L.length) : encTo (L.take (i + 1)) = encTo (L.take i) ++ encB (L.getD i 0) := by
  have e : L.getD i 0 = L[i] := by simp [List.getD, List.getElem?_eq_getElem h]
  unfold encTo
  rw [List.take_add_one, List.flatMap_append, List.getElem?_eq_getElem h, e]
  simp
theorem r_impl_load {H : Heap} {v : Value} {a b : Int} {l : List Int} (h : Bts H v l) (hl : l.length ≤ 60) : Run Tryd.prog 28 [.agg #[.int .i64 a, .int .i64 b, v]] H fun r H' => Keep H H' ∧ EwB H H' r (loadL a b l) := by
  refine Run.intro c28 rfl ?_
  have kp : Keep H (H.push [.int .i64 a, .int .i64 b, v]) := Keep.push _ _
  have o1 := NewF.lit (f := eB) (n := 1) (xs := load3 a b l) kp
  obtain ⟨u, H2, e2, o2, k2, n2⟩ := NewF.app (bytes := 1) (w := v) (ys := l) eB_len (by omega) o1 (Bts.sl (h.keep (kp.trans (Keep.push _ _)))) (by simp [load3]; omega)
  have k2' := k2 H (Nat.le_refl _) kp.push'
  have e2' : vapp ((H.push [.int .i64 a, .int .i64 b, v]).push [.int .u8 (IntKind.u8.wrap a), .int .u8 (IntKind.u8.wrap b), .int .u8 (IntKind.u8.wrap (l.length : Int))]) 1 1 (.slice (some ⟨H.nxt + 1, 0, none⟩) 3 1) v = some (u, H2) := e2
  have b2 := EwB.bts o2
  have hlen : (load3 a b l ++ l).length = l.length + 3 := by simp [load3]
  simp (maxSteps := 4000000) (disch := omega) only [Zq, evO, vbox, wr, Zeq, if_true, if_false, Nat.reduceEqDiff, Nat.reduceAdd, Nat.reduceLeDiff, Nat.reduceSub, and_self, and_true, true_and, reduceIte, reduceCtorEq, eq_self, implies_true, forall_const, false_implies, imp_self, decide_true, decide_false, x28, h.len_, Sl.noTup_ h, Sl.cells_ h, Zff, e2']
  refine GO_call ((r_impl_Crc8 b2 (by omega)).mono ?_)
  rintro _ H3 ⟨k3, rfl⟩
  obtain ⟨u4, H4, e4, o4, k4, n4⟩ := NewF.one (bytes := 1) (y := IntKind.u8.wrap (crcR (load3 a b l ++ l))) eB_len (by omega) (o2.keep k3) (by omega)
  simp only [eB] at e4
  obtain ⟨p, m, rfl⟩ := o4.shape
  simp (maxSteps := 4000000) (disch := omega) only [Zq, evO, vbox, wr, Zeq, if_true, if_false, Nat.reduceEqDiff, Nat.reduceAdd, Nat.reduceLeDiff, Nat.reduceSub, and_self, and_true, true_and, reduceIte, reduceCtorEq, eq_self, implies_true, forall_const, false_implies, imp_self, decide_true, decide_false, Zff, e4]
  exact ⟨k4 H (Nat.le_refl _) (k2'.trans k3), o4⟩
theorem etel_of {H : Heap} {v : Value} {l : List Int} (h : Bts H v l) : (rSlc rByte).rd H [v] l := leaf_rd' h
theorem r_impl_Encode {H : Heap} {v : Value} {a b : Int} {l : List Int} (h : Bts H v l) (hl : l.length ≤ 4611686018427387904) : Run Tryd.prog 8 [.agg #[.int .i64 a, .int .i64 b, v]] H fun r H' => Keep H H' ∧ EownB H H' r (encR a b l) := by
  refine Run.intro c8 rfl ?_
  have kp : Keep H (H.push [.int .i64 a, .int .i64 b, v]) := Keep.push _ _
  simp (maxSteps := 4000000) (disch := omega) only [Zq, evO, vbox, wr, Zeq, if_true, if_false, Nat.reduceEqDiff, Nat.reduceAdd, Nat.reduceLeDiff, Nat.reduceSub, and_self, and_true, true_and, reduceIte, reduceCtorEq, eq_self, implies_true, forall_const, false_implies, imp_self, decide_true, decide_false, x8, Sl.noTup_ h, Sl.cells_ h]
  refine GO_call ((r_impl_TelegramOk (a := a) (b := b) (etel_of (h.keep kp))).mono ?_)
  rintro _ H1 ⟨k1, rfl⟩
  have n1 := k1.nxt
  have g1 := k1.get H.nxt (by simp (maxSteps := 4000000) (disch := omega) only [Zq, evO, vbox, wr, Zeq, if_true, if_false, Nat.reduceEqDiff, Nat.reduceAdd, Nat.reduceLeDiff, Nat.reduceSub, and_self, and_true, true_and, reduceIte, reduceCtorEq, eq_self, implies_true, forall_const, false_implies, imp_self, decide_true, decide_false]; omega)
  have k01 : Keep H H1 := kp.trans k1
  simp (maxSteps := 4000000) (disch := omega) only [Zq, evO, vbox, wr, Zeq, if_true, if_false, Nat.reduceEqDiff, Nat.reduceAdd, Nat.reduceLeDiff, Nat.reduceSub, and_self, and_true, true_and, reduceIte, reduceCtorEq, eq_self, implies_true, forall_const, false_implies, imp_self, decide_true, decide_false, Zfg] at n1 g1
  by_cases hok : okTel a b l.length = true
  · have h60 : l.length ≤ 60 := by
      simp only [okTel, Bool.and_eq_true, decide_eq_true_eq] at hok
      exact hok.2
    have hL := loadL_len a b l
    simp (maxSteps := 4000000) (disch := omega) only [Zq, evO, vbox, wr, Zeq, if_true, if_false, Nat.reduceEqDiff, Nat.reduceAdd, Nat.reduceLeDiff, Nat.reduceSub, and_self, and_true, true_and, reduceIte, reduceCtorEq, eq_self, implies_true, forall_const, false_implies, imp_self, decide_true, decide_false, hok, g1]
    have o1 : EwB H (H1.push [.int .u8 126]) (.slice (some ⟨H1.nxt, 0, none⟩) 1 1) [126] := NewF.lit (f := eB) (n := 1) (xs := [126]) k01
    have k01p : Keep H (H1.push [.int .u8 126]) := k01.push'
    refine GO_call ((r_impl_load (a := a) (b := b) (h.keep k01p) h60).mono ?_)
    rintro w H2 ⟨k2, o2⟩
    have b2 := EwB.bts o2
    obtain ⟨q, q1, q2, hq, _⟩ := o2
    rw [Zbg] at q1
    have hbw : blk w = q := by rw [hq]; rfl
    have o12 := o1.keep k2
    have k02 := k01p.trans k2
    simp (maxSteps := 4000000) (disch := omega) only [Zq, evO, vbox, wr, Zeq, if_true, if_false, Nat.reduceEqDiff, Nat.reduceAdd, Nat.reduceLeDiff, Nat.reduceSub, and_self, and_true, true_and, reduceIte, reduceCtorEq, eq_self, implies_true, forall_const, false_implies, imp_self, decide_true, decide_false, IntsK.len_ b2]
    refine G_for (loadL a b l).length (fun i T H3 => T 11 = w ∧ T 12 = .int .i64 ((loadL a b l).length : Int) ∧ T 13 = .int .i64 (i : Int) ∧ Bts H3 w (loadL a b l) ∧ q < H3.nxt ∧ q ≠ blk (T 3) ∧ Keep H H3 ∧ EwB H H3 (T 3) (encTo ((loadL a b l).take i))) 0 (Nat.zero_le _) ?_ ?_
    · simp (maxSteps := 4000000) (disch := omega) only [Zq, evO, vbox, wr, Zeq, if_true, if_false, Nat.reduceEqDiff, Nat.reduceAdd, Nat.reduceLeDiff, Nat.reduceSub, and_self, and_true, true_and, reduceIte, reduceCtorEq, eq_self, implies_true, forall_const, false_implies, imp_self, decide_true, decide_false]
      exact ⟨b2, q2, by show q ≠ H1.nxt; omega, k02, o12⟩
    · rintro i T H3 hi ⟨t11, t12, t13, b3, q3, qne, k3, o3⟩
      by_cases hin : i < (loadL a b l).length
      · have hle := encTo_le ((loadL a b l).take i)
        rw [List.length_take] at hle
        have hs := encTo_succ hin
        unfold encB at hs
        by_cases hc : (loadL a b l).getD i 0 = 126 ∨ (loadL a b l).getD i 0 = 125
        · rw [if_pos hc] at hs
          obtain ⟨u, H4, e4, o4, k4, n4, a4, a4'⟩ := NewF.many2 (bytes := 1) (ys := [125, xorI .u8 ((loadL a b l).getD i 0) 32]) eB_len (by omega) o3 (by simp only [List.length_cons, List.length_nil]; omega)
          have e4' : vapp (H3.push [.int .u8 125, .int .u8 (xorI .u8 ((loadL a b l).getD i 0) 32)]) 1 1 (T 3) (.slice (some ⟨H3.nxt, 0, none⟩) 2 1) = some (u, H4) := e4
          rw [← hs] at o4
          have b4 : Bts H4 w (loadL a b l) := Sl.agree b3 n4 (by rw [hbw]; exact a4 q q3 qne)
          have q4 : q ≠ blk u := by rcases a4' with h | h <;> omega
          by_cases h1 : (loadL a b l).getD i 0 = 126
          · have h1' := h1
            rw [h1] at e4'
            simp (maxSteps := 4000000) (disch := omega) only [Zq, evO, vbox, wr, Zeq, if_true, if_false, Nat.reduceEqDiff, Nat.reduceAdd, Nat.reduceLeDiff, Nat.reduceSub, and_self, and_true, true_and, reduceIte, reduceCtorEq, eq_self, implies_true, forall_const, false_implies, imp_self, decide_true, decide_false, t11, t12, t13, IntsK.idx b3 hin, IntsK.ld b3 hin, h1, abin_xor, Zff, e4']
            exact ⟨hin, b4, by omega, q4, k4 H (Nat.le_refl _) k3, o4⟩
          · have h2 : (loadL a b l).getD i 0 = 125 := by rcases hc with h | h; exact absurd h h1; exact h
            rw [h2] at e4'
            simp (maxSteps := 4000000) (disch := omega) only [Zq, evO, vbox, wr, Zeq, if_true, if_false, Nat.reduceEqDiff, Nat.reduceAdd, Nat.reduceLeDiff, Nat.reduceSub, and_self, and_true, true_and, reduceIte, reduceCtorEq, eq_self, implies_true, forall_const, false_implies, imp_self, decide_true, decide_false, t11, t12, t13, IntsK.idx b3 hin, IntsK.ld b3 hin, h2, abin_xor, Zff, e4']
            exact ⟨hin, b4, by omega, q4, k4 H (Nat.le_refl _) k3, o4⟩
        · rw [if_neg hc] at hs
          obtain ⟨u, H4, e4, o4, k4, n4, a4, a4'⟩ := NewF.one2 (bytes := 1) (y := (loadL a b l).getD i 0) eB_len (by omega) o3 (by omega)
          simp only [eB] at e4
          rw [← hs] at o4
          have b4 : Bts H4 w (loadL a b l) := Sl.agree b3 n4 (by rw [hbw]; exact a4 q q3 qne)
          have q4 : q ≠ blk u := by rcases a4' with h | h <;> omega
          have h1 : ¬ (loadL a b l).getD i 0 = 126 := fun h => hc (.inl h)
          have h2 : ¬ (loadL a b l).getD i 0 = 125 := fun h => hc (.inr h)
          simp (maxSteps := 4000000) (disch := omega) only [Zq, evO, vbox, wr, Zeq, if_true, if_false, Nat.reduceEqDiff, Nat.reduceAdd, Nat.reduceLeDiff, Nat.reduceSub, and_self, and_true, true_and, reduceIte, reduceCtorEq, eq_self, implies_true, forall_const, false_implies, imp_self, decide_true, decide_false, t11, t12, t13, IntsK.idx b3 hin, IntsK.ld b3 hin, h1, h2, Zff, e4]
          exact ⟨hin, b4, by omega, q4, k4 H (Nat.le_refl _) k3, o4⟩
      · obtain rfl : i = (loadL a b l).length := by omega
        rw [List.take_length] at o3
        have hle := encTo_le (loadL a b l)
        obtain ⟨u, H4, e4, o4, k4, n4⟩ := NewF.one (bytes := 1) (y := 126) eB_len (by omega) o3 (by omega)
        simp only [eB] at e4
        obtain ⟨p, m, rfl⟩ := o4.shape
        simp (maxSteps := 4000000) (disch := omega) only [Zq, evO, vbox, wr, Zeq, if_true, if_false, Nat.reduceEqDiff, Nat.reduceAdd, Nat.reduceLeDiff, Nat.reduceSub, and_self, and_true, true_and, reduceIte, reduceCtorEq, eq_self, implies_true, forall_const, false_implies, imp_self, decide_true, decide_false, t11, t12, t13, Zff, e4]
        refine ⟨k4 H (Nat.le_refl _) k3, ?_⟩
        rw [encR, if_pos hok]
        exact EwB.eownB o4
  · have hok' : okTel a b l.length = false := by simpa using hok
    simp (maxSteps := 4000000) (disch := omega) only [Zq, evO, vbox, wr, Zeq, if_true, if_false, Nat.reduceEqDiff, Nat.reduceAdd, Nat.reduceLeDiff, Nat.reduceSub, and_self, and_true, true_and, reduceIte, reduceCtorEq, eq_self, implies_true, forall_const, false_implies, imp_self, decide_true, decide_false, hok']
    exact ⟨k01, by rw [encR, hok']; exact eownB_nil⟩
theorem r_spec_Encode {H : Heap} {v : Value} {a b : Int} {l : List Int} (h : Bts H v l) (hl : l.length ≤ 4611686018427387904) : Run Tryd.prog 45 [.agg #[.int .i64 a, .int .i64 b, v]] H fun r H' => Keep H H' ∧ EownB H H' r (encR a b l) := by
  refine Run.intro c45 rfl ?_
  have kp : Keep H (H.push [.int .i64 a, .int .i64 b, v]) := Keep.push _ _
  simp (maxSteps := 4000000) (disch := omega) only [Zq, evO, vbox, wr, Zeq, if_true, if_false, Nat.reduceEqDiff, Nat.reduceAdd, Nat.reduceLeDiff, Nat.reduceSub, and_self, and_true, true_and, reduceIte, reduceCtorEq, eq_self, implies_true, forall_const, false_implies, imp_self, decide_true, decide_false, x45, Sl.noTup_ h, Sl.cells_ h]
  refine GO_call ((r_spec_TelegramOk (a := a) (b := b) (etel_of (h.keep kp))).mono ?_)
  rintro _ H1 ⟨k1, rfl⟩
  have n1 := k1.nxt
  have g1 := k1.get H.nxt (by simp (maxSteps := 4000000) (disch := omega) only [Zq, evO, vbox, wr, Zeq, if_true, if_false, Nat.reduceEqDiff, Nat.reduceAdd, Nat.reduceLeDiff, Nat.reduceSub, and_self, and_true, true_and, reduceIte, reduceCtorEq, eq_self, implies_true, forall_const, false_implies, imp_self, decide_true, decide_false]; omega)
  have k01 : Keep H H1 := kp.trans k1
  simp (maxSteps := 4000000) (disch := omega) only [Zq, evO, vbox, wr, Zeq, if_true, if_false, Nat.reduceEqDiff, Nat.reduceAdd, Nat.reduceLeDiff, Nat.reduceSub, and_self, and_true, true_and, reduceIte, reduceCtorEq, eq_self, implies_true, forall_const, false_implies, imp_self, decide_true, decide_false, Zfg] at n1 g1
  by_cases hok : okTel a b l.length = true
  · have h60 : l.length ≤ 60 := by
      simp only [okTel, Bool.and_eq_true, decide_eq_true_eq] at hok
      exact hok.2
    have hL := loadL_len a b l
    have h3len : (load3 a b l).length = 3 := rfl
    simp (maxSteps := 4000000) (disch := omega) only [Zq, evO, vbox, wr, Zeq, if_true, if_false, Nat.reduceEqDiff, Nat.reduceAdd, Nat.reduceLeDiff, Nat.reduceSub, and_self, and_true, true_and, reduceIte, reduceCtorEq, eq_self, implies_true, forall_const, false_implies, imp_self, decide_true, decide_false, hok, g1, h.len_]
    have o1 : EwB H1 (H1.push [.int .u8 (IntKind.u8.wrap a), .int .u8 (IntKind.u8.wrap b), .int .u8 (IntKind.u8.wrap (l.length : Int))]) (.slice (some ⟨H1.nxt, 0, none⟩) 3 1) (load3 a b l) := NewF.lit (f := eB) (n := 1) (xs := load3 a b l) (Keep.refl H1)
    refine G_for l.length (fun i T H3 => T 1 = ptr H.nxt 0 ∧ T 4 = .int .i64 (i : Int) ∧ Keep H1 H3 ∧ EwB H1 H3 (T 3) (load3 a b l ++ l.take i)) 0 (Nat.zero_le _) ?_ ?_
    · simp (maxSteps := 4000000) (disch := omega) only [Zq, evO, vbox, wr, Zeq, if_true, if_false, Nat.reduceEqDiff, Nat.reduceAdd, Nat.reduceLeDiff, Nat.reduceSub, and_self, and_true, true_and, reduceIte, reduceCtorEq, eq_self, implies_true, forall_const, false_implies, imp_self, decide_true, decide_false, List.take_zero, List.append_nil]
      exact ⟨Keep.push _ _, o1⟩
    · rintro i T H3 hi ⟨t1, t4, k3, o3⟩
      have g3 := (k3.get H.nxt (by omega)).trans g1
      have h3 := h.keep (k01.trans k3)
      by_cases hin : i < l.length
      · obtain ⟨u, H4, e4, o4, k4, n4⟩ := NewF.one (bytes := 1) (y := l.getD i 0) eB_len (by omega) o3 (by rw [List.length_append, List.length_take]; omega)
        simp only [eB] at e4
        have hs : load3 a b l ++ l.take i ++ [l.getD i 0] = load3 a b l ++ l.take (i + 1) := by
          have e : l.getD i 0 = l[i] := by simp [List.getD, List.getElem?_eq_getElem hin]
          rw [List.take_add_one, List.getElem?_eq_getElem hin, e, List.append_assoc]; rfl
        rw [hs] at o4
        simp (maxSteps := 4000000) (disch := omega) only [Zq, evO, vbox, wr, Zeq, if_true, if_false, Nat.reduceEqDiff, Nat.reduceAdd, Nat.reduceLeDiff, Nat.reduceSub, and_self, and_true, true_and, reduceIte, reduceCtorEq, eq_self, implies_true, forall_const, false_implies, imp_self, decide_true, decide_false, t1, t4, g3, h3.len_, IntsK.idx h3 hin, IntsK.ld h3 hin, Zff, e4]
        exact ⟨hin, k4 H1 (Nat.le_refl _) k3, o4⟩
      · obtain rfl : i = l.length := by omega
        rw [List.take_length] at o3
        have b3 := EwB.bts o3
        have hlen : (load3 a b l ++ l).length = l.length + 3 := by simp [load3]
        simp (maxSteps := 4000000) (disch := omega) only [Zq, evO, vbox, wr, Zeq, if_true, if_false, Nat.reduceEqDiff, Nat.reduceAdd, Nat.reduceLeDiff, Nat.reduceSub, and_self, and_true, true_and, reduceIte, reduceCtorEq, eq_self, implies_true, forall_const, false_implies, imp_self, decide_true, decide_false, t1, t4, g3, h3.len_]
        refine GO_call ((r_spec_Crc8 b3 (by omega)).mono ?_)
        rintro _ H4 ⟨k4, rfl⟩
        obtain ⟨w, H5, e5, o5, k5, n5⟩ := NewF.one (bytes := 1) (y := IntKind.u8.wrap (crcR (load3 a b l ++ l))) eB_len (by omega) (o3.keep k4) (by omega)
        simp only [eB] at e5
        have k15 := k5 H1 (Nat.le_refl _) (k3.trans k4)
        have b5 : Bts H5 w (loadL a b l) := EwB.bts o5
        have k05 := k01.trans k15
        simp (maxSteps := 4000000) (disch := omega) only [Zq, evO, vbox, wr, Zeq, if_true, if_false, Nat.reduceEqDiff, Nat.reduceAdd, Nat.reduceLeDiff, Nat.reduceSub, and_self, and_true, true_and, reduceIte, reduceCtorEq, eq_self, implies_true, forall_const, false_implies, imp_self, decide_true, decide_false, Zff, e5]
        have o6 : EwB H5 (H5.push [.int .u8 126]) (.slice (some ⟨H5.nxt, 0, none⟩) 1 1) [126] := NewF.lit (f := eB) (n := 1) (xs := [126]) (Keep.refl H5)
        refine G_for (loadL a b l).length (fun i T H6 => T 3 = w ∧ T 6 = .int .i64 (i : Int) ∧ Keep H5 H6 ∧ EwB H5 H6 (T 5) (encTo ((loadL a b l).take i))) 0 (Nat.zero_le _) ?_ ?_
        · simp (maxSteps := 4000000) (disch := omega) only [Zq, evO, vbox, wr, Zeq, if_true, if_false, Nat.reduceEqDiff, Nat.reduceAdd, Nat.reduceLeDiff, Nat.reduceSub, and_self, and_true, true_and, reduceIte, reduceCtorEq, eq_self, implies_true, forall_const, false_implies, imp_self, decide_true, decide_false]
          exact ⟨Keep.push _ _, o6⟩
        · rintro i T H6 hi ⟨t3, t6, k6, o6⟩
          have b6 : Bts H6 w (loadL a b l) := IntsK.keep b5 k6
          by_cases hin : i < (loadL a b l).length
          · have hle := encTo_le ((loadL a b l).take i)
            rw [List.length_take] at hle
            have hs := encTo_succ hin
            unfold encB at hs
            by_cases hc : (loadL a b l).getD i 0 = 126 ∨ (loadL a b l).getD i 0 = 125
            · rw [if_pos hc] at hs
              obtain ⟨u, H7, e7, o7, k7, n7⟩ := NewF.many (bytes := 1) (ys := [125, xorI .u8 ((loadL a b l).getD i 0) 32]) eB_len (by omega) o6 (by simp only [List.length_cons, List.length_nil]; omega)
              have e7' : vapp (H6.push [.int .u8 125, .int .u8 (xorI .u8 ((loadL a b l).getD i 0) 32)]) 1 1 (T 5) (.slice (some ⟨H6.nxt, 0, none⟩) 2 1) = some (u, H7) := e7
              rw [← hs] at o7
              by_cases h1 : (loadL a b l).getD i 0 = 126
              · rw [h1] at e7'
                simp (maxSteps := 4000000) (disch := omega) only [Zq, evO, vbox, wr, Zeq, if_true, if_false, Nat.reduceEqDiff, Nat.reduceAdd, Nat.reduceLeDiff, Nat.reduceSub, and_self, and_true, true_and, reduceIte, reduceCtorEq, eq_self, implies_true, forall_const, false_implies, imp_self, decide_true, decide_false, t3, t6, IntsK.len_ b6, IntsK.idx b6 hin, IntsK.ld b6 hin, h1, abin_xor, Zff, e7']
                exact ⟨hin, k7 H5 (Nat.le_refl _) k6, o7⟩
              · have h2 : (loadL a b l).getD i 0 = 125 := by rcases hc with h | h; exact absurd h h1; exact h
                rw [h2] at e7'
                simp (maxSteps := 4000000) (disch := omega) only [Zq, evO, vbox, wr, Zeq, if_true, if_false, Nat.reduceEqDiff, Nat.reduceAdd, Nat.reduceLeDiff, Nat.reduceSub, and_self, and_true, true_and, reduceIte, reduceCtorEq, eq_self, implies_true, forall_const, false_implies, imp_self, decide_true, decide_false, t3, t6, IntsK.len_ b6, IntsK.idx b6 hin, IntsK.ld b6 hin, h2, abin_xor, Zff, e7']
                exact ⟨hin, k7 H5 (Nat.le_refl _) k6, o7⟩
            · rw [if_neg hc] at hs
              obtain ⟨u, H7, e7, o7, k7, n7⟩ := NewF.one (bytes := 1) (y := (loadL a b l).getD i 0) eB_len (by omega) o6 (by omega)
              simp only [eB] at e7
              rw [← hs] at o7
              have h1 : ¬ (loadL a b l).getD i 0 = 126 := fun h => hc (.inl h)
              have h2 : ¬ (loadL a b l).getD i 0 = 125 := fun h => hc (.inr h)
              simp (maxSteps := 4000000) (disch := omega) only [Zq, evO, vbox, wr, Zeq, if_true, if_false, Nat.reduceEqDiff, Nat.reduceAdd, Nat.reduceLeDiff, Nat.reduceSub, and_self, and_true, true_and, reduceIte, reduceCtorEq, eq_self, implies_true, forall_const, false_implies, imp_self, decide_true, decide_false, t3, t6, IntsK.len_ b6, IntsK.idx b6 hin, IntsK.ld b6 hin, h1, h2, Zff, e7]
              exact ⟨hin, k7 H5 (Nat.le_refl _) k6, o7⟩
          · obtain rfl : i = (loadL a b l).length := by omega
            rw [List.take_length] at o6
            have hle := encTo_le (loadL a b l)
            obtain ⟨u, H7, e7, o7, k7, n7⟩ := NewF.one (bytes := 1) (y := 126) eB_len (by omega) o6 (by omega)
            simp only [eB] at e7
            obtain ⟨p, m, rfl⟩ := o7.shape
            simp (maxSteps := 4000000) (disch := omega) only [Zq, evO, vbox, wr, Zeq, if_true, if_false, Nat.reduceEqDiff, Nat.reduceAdd, Nat.reduceLeDiff, Nat.reduceSub, and_self, and_true, true_and, reduceIte, reduceCtorEq, eq_self, implies_true, forall_const, false_implies, imp_self, decide_true, decide_false, t3, t6, IntsK.len_ b6, Zff, e7]
            refine ⟨k05.trans (k7 H5 (Nat.le_refl _) k6), ?_⟩
            rw [encR, if_pos hok]
            have n05 := k05.nxt
            obtain ⟨F, f1, f2, f3⟩ := EwB.eownB o7
            exact ⟨F, f1, f2, fun j hj => by have := f3 j hj; omega⟩
  · have hok' : okTel a b l.length = false := by simpa using hok
    simp (maxSteps := 4000000) (disch := omega) only [Zq, evO, vbox, wr, Zeq, if_true, if_false, Nat.reduceEqDiff, Nat.reduceAdd, Nat.reduceLeDiff, Nat.reduceSub, and_self, and_true, true_and, reduceIte, reduceCtorEq, eq_self, implies_true, forall_const, false_implies, imp_self, decide_true, decide_false, hok']
    exact ⟨k01, by rw [encR, hok']; exact eownB_nil⟩
end Go.Proofs.YtiajbefljkikiaaDoor.AX
