/- bytes.Split at one byte. No condition beyond each law's own; of the program: the functions' forms, the names of those without a body. -/
import Derived.Test.YtiajbefljkikiaaDoorScp
import Derived.Test.YtiajbefljkikiaaDoorDcy
namespace Go.Proofs.YtiajbefljkikiaaDoor.AX
open Go
set_option maxRecDepth 10000
set_option maxHeartbeats 4000000
set_option linter.unusedSimpArgs false
set_option linter.unusedVariables false
theorem bts_byts {H : Heap} {v : Value} {xs : List Int} (h : Bts H v xs) : byts H v = some (strOfNums xs) := by
  have h1 := bts_str h
  unfold vb2s at h1
  obtain ⟨s, h2, h3⟩ := Option.map_eq_some_iff.1 h1
  rw [h2]
  simpa using h3
theorem r_bytealg_Count {H : Heap} {v : Value} {xs : List Int} (h : Bts H v xs) (hx : ∀ x ∈ xs, isB x) : Run Tryd.prog 55 [v, .int .u8 126] H fun r H' => Keep H H' ∧ r = .int .i64 (xs.count 126 : Int) :=
  ⟨_, H, CR.ext ⟨Tryd.f55, true, Tryd.func55, by kernel_rfl, by kernel_rfl, by kernel_rfl, by kernel_rfl, v, 126, _, rfl, bts_byts h, rfl⟩, Keep.refl H, congrArg (Value.int .i64) (bsea_cnt hx)⟩
theorem r_bytealg_IndexByte {H : Heap} {v : Value} {xs : List Int} (h : Bts H v xs) (hx : ∀ x ∈ xs, isB x) : Run Tryd.prog 62 [v, .int .u8 126] H fun r H' => Keep H H' ∧ r = .int .i64 (match fst7 xs with | some m => (m : Int) | none => -1) :=
  ⟨_, H, CR.ext ⟨Tryd.f62, false, Tryd.func62, by kernel_rfl, by kernel_rfl, by kernel_rfl, by kernel_rfl, v, 126, _, rfl, bts_byts h, rfl⟩, Keep.refl H, congrArg (Value.int .i64) (bsea_fst hx)⟩
section
variable {H : Heap} {v w : Value} {xs : List Int}
theorem r_bytes_Count (h : Bts H v xs) (hw : Bts H w [126]) (hx : ∀ x ∈ xs, isB x) : Run Tryd.prog 51 [v, w] H fun r H' => Keep H H' ∧ r = .int .i64 (xs.count 126 : Int) := by
  have lw : ∀ H1 : Heap, vlen H1 w = some (.int .i64 1, H1) := fun H1 => IntsK.len_ (H1 := H1) hw
  have ixw : ∀ H0 : Heap, vidx H0 1 w (.int .i64 0) = some (adr w 0 1 0, H0) := fun H0 => IntsK.idx (k' := .i64) (H1 := H0) (i := 0) hw (by simp)
  have ldw := IntsK.ld (i := 0) hw (by simp)
  simp only [List.getD_cons_zero] at ldw
  refine Run.intro c51 rfl ?_
  simp (maxSteps := 4000000) (disch := omega) only [Zq, evO, vbox, wr, Zeq, if_true, if_false, Nat.reduceEqDiff, Nat.reduceAdd, Nat.reduceLeDiff, Nat.reduceSub, and_self, and_true, true_and, reduceIte, reduceCtorEq, eq_self, implies_true, forall_const, false_implies, imp_self, decide_true, decide_false, x51, lw, ixw, ldw]
  refine GO_call ((r_bytealg_Count h hx).mono ?_)
  rintro _ H1 ⟨k1, rfl⟩
  simp (maxSteps := 4000000) (disch := omega) only [Zq, evO, vbox, wr, Zeq, if_true, if_false, Nat.reduceEqDiff, Nat.reduceAdd, Nat.reduceLeDiff, Nat.reduceSub, and_self, and_true, true_and, reduceIte, reduceCtorEq, eq_self, implies_true, forall_const, false_implies, imp_self, decide_true, decide_false, fix_nil, fix_cons]
  exact k1
theorem r_bytes_IndexByte (h : Bts H v xs) (hx : ∀ x ∈ xs, isB x) : Run Tryd.prog 56 [v, .int .u8 126] H fun r H' => Keep H H' ∧ r = .int .i64 (match fst7 xs with | some m => (m : Int) | none => -1) := by
  refine Run.intro c56 rfl ?_
  simp (maxSteps := 4000000) (disch := omega) only [Zq, evO, vbox, wr, Zeq, if_true, if_false, Nat.reduceEqDiff, Nat.reduceAdd, Nat.reduceLeDiff, Nat.reduceSub, and_self, and_true, true_and, reduceIte, reduceCtorEq, eq_self, implies_true, forall_const, false_implies, imp_self, decide_true, decide_false, x56]
  refine GO_call ((r_bytealg_IndexByte h hx).mono ?_)
  rintro _ H1 ⟨k1, rfl⟩
  simp (maxSteps := 4000000) (disch := omega) only [Zq, evO, vbox, wr, Zeq, if_true, if_false, Nat.reduceEqDiff, Nat.reduceAdd, Nat.reduceLeDiff, Nat.reduceSub, and_self, and_true, true_and, reduceIte, reduceCtorEq, eq_self, implies_true, forall_const, false_implies, imp_self, decide_true, decide_false, fix_nil, fix_cons]
  exact k1
theorem r_bytes_Index (h : Bts H v xs) (hw : Bts H w [126]) (hx : ∀ x ∈ xs, isB x) : Run Tryd.prog 52 [v, w] H fun r H' => Keep H H' ∧ r = .int .i64 (match fst7 xs with | some m => (m : Int) | none => -1) := by
  have lw : ∀ H1 : Heap, vlen H1 w = some (.int .i64 1, H1) := fun H1 => IntsK.len_ (H1 := H1) hw
  have ixw : ∀ H0 : Heap, vidx H0 1 w (.int .i64 0) = some (adr w 0 1 0, H0) := fun H0 => IntsK.idx (k' := .i64) (H1 := H0) (i := 0) hw (by simp)
  have ldw := IntsK.ld (i := 0) hw (by simp)
  simp only [List.getD_cons_zero] at ldw
  refine Run.intro c52 rfl ?_
  simp (maxSteps := 4000000) (disch := omega) only [Zq, evO, vbox, wr, Zeq, if_true, if_false, Nat.reduceEqDiff, Nat.reduceAdd, Nat.reduceLeDiff, Nat.reduceSub, and_self, and_true, true_and, reduceIte, reduceCtorEq, eq_self, implies_true, forall_const, false_implies, imp_self, decide_true, decide_false, x52, lw, ixw, ldw]
  refine GO_call ((r_bytes_IndexByte h hx).mono ?_)
  rintro _ H1 ⟨k1, rfl⟩
  simp (maxSteps := 4000000) (disch := omega) only [Zq, evO, vbox, wr, Zeq, if_true, if_false, Nat.reduceEqDiff, Nat.reduceAdd, Nat.reduceLeDiff, Nat.reduceSub, and_self, and_true, true_and, reduceIte, reduceCtorEq, eq_self, implies_true, forall_const, false_implies, imp_self, decide_true, decide_false, fix_nil, fix_cons]
  exact k1
theorem vmm_min {H : Heap} {a b : Int} : vmm H false (.int .i64 a) (.int .i64 b) = some (.int .i64 (min a b), H) := by
  have e : (if a ≤ b then a else b) = min a b := by omega
  simp only [vmm, if_true]
  simp
  try omega
theorem Sl.slc_max {H1 : Heap} {sz n b : Nat} {cs : List Value} {k k' : IntKind} (h : Sl H v sz n cs) (hb : b ≤ n) : vslc H1 sz none (some (.int k (b : Int))) (some (.int k' (b : Int))) v = some (subV v 0 b sz, H1) := by
  rcases h.2 with ⟨rfl, rfl⟩ | ⟨i, o, rfl, _⟩
  · obtain rfl : b = 0 := by omega
    simp only [vslc, bnds, Option.bind_some, bnd_nat (Nat.le_refl 0), Option.map_some, subV]
  · simp only [vslc, if_true, bnds, Option.bind_some, bnd_nat hb, bnd_nat (Nat.le_refl b), Option.map_some, subV]
theorem getD_drop {xs : List Int} {f j : Nat} : (xs.drop f).getD j 0 = xs.getD (f + j) 0 := by
  rw [List.getD_eq_getElem?_getD, List.getElem?_drop, ← List.getD_eq_getElem?_getD]
/-- Pieces, each where it lay. -/
def Vs (H : Heap) (vs : List Value) (ps : List (List Int)) : Prop := All2 (fun v p => Bts H v p) vs ps
def fV (v : Value) : List Value := [v]
theorem fV_len (v : Value) : (fV v).length = 1 := rfl
theorem fcV (vs : List Value) : fcells fV vs = vs := by
  induction vs with
  | nil => rfl
  | cons v vs ih =>
    have : fcells fV (v :: vs) = fV v ++ fcells fV vs := by simp [fcells]
    rw [this, ih]
    rfl
theorem count_drop {xs : List Int} {m : Nat} (h : m < xs.length) (h1 : xs.getD m 0 = 126) (h2 : ∀ j, j < m → xs.getD j 0 ≠ 126) : xs.count 126 = (xs.drop (m + 1)).count 126 + 1 := by
  induction m generalizing xs with
  | zero =>
    cases xs with
    | nil => simp at h
    | cons x xs =>
      obtain rfl : x = 126 := by simpa using h1
      simp
  | succ m ih =>
    cases xs with
    | nil => simp at h
    | cons x xs =>
      have hx : x ≠ 126 := by simpa using h2 0 (by omega)
      rw [List.count_cons_of_ne (fun e => hx e), List.drop_succ_cons]
      exact ih (by simpa using h) (by simpa using h1) (fun j hj => by simpa using h2 (j + 1) (by omega))
theorem r_bytes_genSplit {B : Heap} (hB : Bts B v xs) (kB : Keep B H) (hw : Bts H w [126]) (hx : ∀ x ∈ xs, isB x) (hl : xs.length ≤ 3000) : Run Tryd.prog 43 [v, w, .int .i64 0, .int .i64 (-1)] H fun r H' => Keep H H' ∧ ∃ vs, NewF fV 1 H H' r vs ∧ Vs B vs (spl xs) := by
  have h := IntsK.keep hB kB
  have lw : ∀ H1 : Heap, vlen H1 w = some (.int .i64 1, H1) := fun H1 => IntsK.len_ (H1 := H1) hw
  have lv := fun H1 : Heap => IntsK.len_ (H1 := H1) h
  refine Run.intro c43 rfl ?_
  simp (maxSteps := 4000000) (disch := omega) only [Zq, evO, vbox, wr, Zeq, if_true, if_false, Nat.reduceEqDiff, Nat.reduceAdd, Nat.reduceLeDiff, Nat.reduceSub, and_self, and_true, true_and, reduceIte, reduceCtorEq, eq_self, implies_true, forall_const, false_implies, imp_self, decide_true, decide_false, x43, lw]
  refine GO_call ((r_bytes_Count h hw hx).mono ?_)
  rintro _ H1 ⟨k1, rfl⟩
  have n1 := k1.nxt
  obtain ⟨c, hc⟩ : ∃ c, c = xs.count 126 := ⟨_, rfl⟩
  have hcl : c ≤ xs.length := by rw [hc]; exact List.count_le_length
  rw [← hc]
  have hw1 : IntKind.i64.wrap ((c : Int) + 1) = ((c + 1 : Nat) : Int) := by rw [wrap64 (by omega) (by omega)]; omega
  have hw2 : IntKind.i64.wrap ((xs.length : Int) + 1) = ((xs.length + 1 : Nat) : Int) := by rw [wrap64 (by omega) (by omega)]; omega
  have hmin : min ((c + 1 : Nat) : Int) ((xs.length + 1 : Nat) : Int) = ((c + 1 : Nat) : Int) := by omega
  have hw3 : IntKind.i64.wrap (((c + 1 : Nat) : Int) - 1) = (c : Int) := by rw [wrap64 (by omega) (by omega)]; omega
  simp (maxSteps := 4000000) (disch := omega) only [Zq, evO, vbox, wr, Zeq, if_true, if_false, Nat.reduceEqDiff, Nat.reduceAdd, Nat.reduceLeDiff, Nat.reduceSub, and_self, and_true, true_and, reduceIte, reduceCtorEq, eq_self, implies_true, forall_const, false_implies, imp_self, decide_true, decide_false, fix_nil, fix_cons, lv, hw1, hw2, vmm_min, hmin, hw3]
  have o2 : NewF fV 1 H1 (H1.push (List.replicate (c + 1) [Value.slice none 0 0]).flatten) (.slice (some ⟨H1.nxt, 0, none⟩) (c + 1) 1) (List.replicate (c + 1) (.slice none 0 0)) :=
    ⟨H1.nxt, Nat.le_refl _, by rw [Zbg]; omega, by rw [List.length_replicate], by rw [push_get', if_pos rfl, fcV]; simp⟩
  generalize hG : H1.push (List.replicate (c + 1) [Value.slice none 0 0]).flatten = H2 at o2 ⊢
  have k2 : Keep H1 H2 := by rw [← hG]; exact Keep.push _ _
  clear hG
  have k12 := k1.trans k2
  obtain ⟨va, hva⟩ : ∃ va, va = Value.slice (some ⟨H1.nxt, 0, none⟩) (c + 1) 1 := ⟨_, rfl⟩
  rw [← hva] at o2 ⊢
  refine G_forF [1, 2, 3, 9] (c) (fun i T H3 => T 10 = .int .i64 (i : Int) ∧ Keep H H3 ∧ ∃ (u : Value) (f : Nat) (vs : List Value) (ps : List (List Int)), T 0 = u ∧ Bts B u (xs.drop f) ∧ f ≤ xs.length ∧ NewF fV 1 H1 H3 va (vs ++ List.replicate (c + 1 - i) (.slice none 0 0)) ∧ Vs B vs ps ∧ spl xs = ps ++ splF xs f ∧ vs.length = i ∧ (xs.drop f).count 126 + i = c) 0 (Nat.zero_le _) ?_ ?_
  · simp (maxSteps := 4000000) (disch := omega) only [Zq, evO, vbox, wr, Zeq, if_true, if_false, Nat.reduceEqDiff, Nat.reduceAdd, Nat.reduceLeDiff, Nat.reduceSub, and_self, and_true, true_and, reduceIte, reduceCtorEq, eq_self, implies_true, forall_const, false_implies, imp_self, decide_true, decide_false, fix_nil, fix_cons]
    exact ⟨k12, v, 0, [], [], rfl, hB, by omega, o2, .nil, by rw [splF_zero]; rfl, rfl, by rw [List.drop_zero]; omega⟩
  rintro i T H3 hi hT ⟨t10, k3, u, f, vs, ps, t0, hu, hf, o3, hvs, hsp, hvl, hcn⟩
  simp only [fix_nil, fix_cons, Zq, evO, vbox, wr, Zeq, if_true, if_false, Nat.reduceEqDiff, Nat.reduceAdd, Nat.reduceLeDiff, Nat.reduceSub, and_self, and_true, true_and, reduceIte, reduceCtorEq, eq_self, implies_true, forall_const, false_implies, imp_self, decide_true, decide_false] at hT
  obtain ⟨t1, t2, t3, t9⟩ := hT
  have s3 := o3.sl fV_len
  have hlen : (vs ++ List.replicate (c + 1 - i) (Value.slice none 0 0)).length = c + 1 := by rw [List.length_append, List.length_replicate, hvl]; omega
  have ixa := fun H0 : Heap => Sl.idx (H1 := H0) (k := .i64) (i := i) s3 (by omega)
  have hu1 := Sl.noTup_ hu
  have hu2 := Sl.cells_ hu
  by_cases hin : i < c
  · have hu3 := IntsK.keep hu (kB.trans k3)
    simp (maxSteps := 4000000) (disch := omega) only [Zq, evO, vbox, wr, Zeq, if_true, if_false, Nat.reduceEqDiff, Nat.reduceAdd, Nat.reduceLeDiff, Nat.reduceSub, and_self, and_true, true_and, reduceIte, reduceCtorEq, eq_self, implies_true, forall_const, false_implies, imp_self, decide_true, decide_false, fix_nil, fix_cons, t1, t2, t3, t9, t10, t0, Zfh (by omega : (i : Int) < (c : Int))]
    refine GO_call ((r_bytes_Index hu3 (IntsK.keep hw k3) (fun x hx' => hx x (List.mem_of_mem_drop hx'))).mono ?_)
    rintro _ H4 ⟨k4, rfl⟩
    have n4 := k4.nxt
    cases hfs : fst7 (xs.drop f) with
    | none => exact absurd (fst7_none hfs) (by omega)
    | some m =>
      obtain ⟨m1, m2, m3⟩ := fst7_some hfs
      have m1' := m1
      rw [List.length_drop] at m1'
      have hcd := count_drop m1 m2 m3
      rw [List.drop_drop] at hcd
      have hsf := splF_step (xs := xs) (f := f) (i := f + m) (by omega) (by omega) (fun j h1 h2 => by have := m3 (j - f) (by omega); rwa [getD_drop, show f + (j - f) = j by omega] at this) (.inr (by rw [getD_drop] at m2; exact m2))
      rw [show f + m - f = m by omega] at hsf
      have hwA : IntKind.i64.wrap ((m : Int) + 0) = (m : Int) := by rw [Int.add_zero]; exact wrap64 (by omega) (by omega)
      have hwB : IntKind.i64.wrap ((m : Int) + 1) = ((m + 1 : Nat) : Int) := by rw [wrap64 (by omega) (by omega)]; omega
      have sA := fun H0 : Heap => Sl.slc_max (H1 := H0) (k := .i64) (k' := .i64) (b := m) hu (by rw [List.length_drop]; omega)
      have sB := fun H0 : Heap => Sl.slc_lo (H1 := H0) (k := .i64) (a := m + 1) hu (by rw [List.length_drop]; omega)
      have pA := IntsK.sub hu (a := 0) (b := m) (by omega) (by omega)
      rw [List.drop_zero, Nat.sub_zero] at pA
      have pB := IntsK.sub hu (a := m + 1) (b := (xs.drop f).length) (by omega) (by omega)
      rw [List.take_of_length_le (by simp only [List.length_drop]; omega), List.drop_drop] at pB
      have o4 := o3.keep k4
      obtain ⟨H5, e5, o5, kk5, n5, _⟩ := NewF.st (y := subV u 0 m 1) fV_len o4 (Sl.noTup_ pA) (Sl.cells_ pA) (by omega : i < _)
      have k5 : Keep H H5 := kk5 H (by have := k1.nxt; omega) (k3.trans k4)
      simp (maxSteps := 4000000) (disch := omega) only [Zq, evO, vbox, wr, Zeq, if_true, if_false, Nat.reduceEqDiff, Nat.reduceAdd, Nat.reduceLeDiff, Nat.reduceSub, and_self, and_true, true_and, reduceIte, reduceCtorEq, eq_self, implies_true, forall_const, false_implies, imp_self, decide_true, decide_false, fix_nil, fix_cons, t1, t2, t3, t9, t10, t0, Zfi (by omega : ¬ (m : Int) < 0), hwA, hwB, lw, sA, sB, ixa, e5]
      have hset : (vs ++ List.replicate (c + 1 - i) (Value.slice none 0 0)).set i (subV u 0 m 1) = (vs ++ [subV u 0 m 1]) ++ List.replicate (c + 1 - (i + 1)) (.slice none 0 0) := by
        rw [List.set_append_right _ _ (by omega), hvl, Nat.sub_self, show c + 1 - i = (c + 1 - (i + 1)) + 1 by omega, List.replicate_succ, List.set_cons_zero, List.append_assoc]
        rfl
      rw [hset] at o5
      exact ⟨hin, k5, _, f + (m + 1), _, ps ++ [(xs.drop f).take m], rfl, pB, by omega, o5, hvs.append (.cons pA .nil), by rw [hsp, hsf, List.append_assoc]; rfl, by rw [List.length_append, hvl]; rfl, by omega⟩
  obtain rfl : i = c := by omega
  have hno : ∀ x ∈ xs.drop f, x ≠ 126 := by
    intro x hx' e
    have h0 : (xs.drop f).count 126 = 0 := by omega
    exact List.count_eq_zero.1 h0 (e ▸ hx')
  obtain ⟨H5, e5, o5, kk5, n5, _⟩ := NewF.st (y := u) fV_len o3 hu1 hu2 (by omega : i < _)
  have k5 : Keep H H5 := kk5 H (by have := k1.nxt; omega) k3
  have hset : (vs ++ List.replicate (i + 1 - i) (Value.slice none 0 0)).set i u = vs ++ [u] := by
    rw [List.set_append_right _ _ (by omega), hvl, Nat.sub_self, show i + 1 - i = 1 by omega]
    rfl
  rw [hset] at o5
  have s5 := o5.sl fV_len
  rw [show (vs ++ [u]).length = i + 1 by rw [List.length_append, hvl]; rfl] at s5
  have sC := fun H0 : Heap => Sl.slc_hi (H1 := H0) (k := .i64) (b := i + 1) s5 (by omega)
  have hv0 : subV va 0 (i + 1) 1 = va := by rw [hva]; rfl
  rw [hv0] at sC
  have hvn := Sl.noTup_ s5
  simp (maxSteps := 4000000) (disch := omega) only [Zq, evO, vbox, wr, Zeq, if_true, if_false, Nat.reduceEqDiff, Nat.reduceAdd, Nat.reduceLeDiff, Nat.reduceSub, and_self, and_true, true_and, reduceIte, reduceCtorEq, eq_self, implies_true, forall_const, false_implies, imp_self, decide_true, decide_false, fix_nil, fix_cons, t1, t2, t3, t9, t10, t0, Zfi (by omega : ¬ (i : Int) < (i : Int)), ixa, e5, Zfn (i := i) (by omega), sC, hvn]
  refine ⟨k5, vs ++ [u], o5.base (by have := k1.nxt; omega), ?_⟩
  rw [hsp, splF, if_pos hf, spl_no hno]
  exact hvs.append (.cons hu .nil)
end
end Go.Proofs.YtiajbefljkikiaaDoor.AX
