/- The laws' helpers over slices, by the shape of their code: copies, equality, marks. No condition beyond each law's own; of a program: that a function has such a form. -/
import Derived.Test.YtkadelndmaegdaaAXx
namespace Go.Proofs.Ytkadelndmaegdaa.AX
open Go
set_option maxRecDepth 10000
set_option linter.unusedSimpArgs false
set_option linter.unusedVariables false

section
variable {α : Type} {f : α → Value} {m : Nat → α} {hf : ∀ a, oneCell (f a) = true} {H : Heap}
theorem leaf_rows : ∀ {rows : List (List Value)} {xs : List α}, rdRows (leafRep f m hf) H rows xs → rows = xs.map fun a => [f a]
  | [], [], _ => rfl
  | c :: cs, x :: xs, .cons h h' => by
    have e : c = [f x] := h
    rw [e, leaf_rows h']
    rfl
theorem flat_map_one : ∀ (xs : List α), (xs.map fun a => [f a]).flatten = xs.map f
  | [] => rfl
  | x :: xs => by
    have := flat_map_one xs
    simp only [List.map_cons, List.flatten_cons, this]
    rfl
theorem leaf_rd {cs : List Value} {xs : List α} (h : (rSlc (leafRep f m hf)).rd H cs xs) : ∃ v, cs = [v] ∧ Sl H v 1 xs.length (xs.map f) := by
  obtain ⟨v, rows, h1, h2, h3⟩ := h
  rw [leaf_rows h3, flat_map_one] at h2
  exact ⟨v, h1, h2⟩
theorem leaf_rd' {v : Value} {xs : List α} (h : Sl H v 1 xs.length (xs.map f)) : (rSlc (leafRep f m hf)).rd H [v] xs := by
  refine ⟨v, xs.map fun a => [f a], rfl, by rw [flat_map_one]; exact h, ?_⟩
  have : ∀ xs : List α, All2 (fun c x => (leafRep f m hf).rd H c x) (xs.map fun a => [f a]) xs := by
    intro xs
    induction xs with
    | nil => exact .nil
    | cons x xs ih => exact .cons rfl ih
  exact this xs
theorem leaf_ownRows : ∀ {rows : List (List Value)} {xs : List α} {Fs : List (List Nat)}, ownRows (leafRep f m hf) H rows xs Fs → Fs.flatten = []
  | [], [], [], _ => rfl
  | [], [], _ :: _, h => h.elim
  | [], _ :: _, _, h => h.elim
  | _ :: _, [], _, h => h.elim
  | _ :: _, _ :: _, [], h => h.elim
  | c :: cs, x :: xs, F :: Fs, h => by
    have e : F = [] := h.1.2
    rw [List.flatten_cons, e, leaf_ownRows h.2]
    rfl
theorem leaf_ownRows' : ∀ (xs : List α), ∃ Fs, ownRows (leafRep f m hf) H (xs.map fun a => [f a]) xs Fs ∧ Fs.flatten = []
  | [] => ⟨[], trivial, rfl⟩
  | x :: xs => by
    obtain ⟨Fs, h1, h2⟩ := leaf_ownRows' xs
    exact ⟨[] :: Fs, ⟨⟨rfl, rfl⟩, h1⟩, by rw [List.flatten_cons, h2]; rfl⟩
theorem leaf_own {cs : List Value} {xs : List α} {F : List Nat} (h : (rSlc (leafRep f m hf)).own H cs xs F) : (cs = [.slice none 0 0] ∧ xs = [] ∧ F = []) ∨
    ∃ p pre post, cs = [.slice (some ⟨p, pre.length, none⟩) xs.length 1] ∧ p < H.nxt ∧ H.get p = some (.own (mid pre (xs.map f) post)) ∧ F = [p] := by
  rcases h with h | ⟨p, o, pre, rows, post, Fs, h1, h2, h3, h4, h5, h6⟩
  · exact .inl h
  · have hr := leaf_rows h5.rd
    subst hr
    rw [flat_map_one] at h3
    subst h4
    exact .inr ⟨p, pre, post, h1, h2, h3, by rw [h6, leaf_ownRows h5]⟩
theorem leaf_own' {xs : List α} {p : Nat} {pre post : List Value} (hp : p < H.nxt) (hg : H.get p = some (.own (mid pre (xs.map f) post))) : (rSlc (leafRep f m hf)).own H [.slice (some ⟨p, pre.length, none⟩) xs.length 1] xs [p] := by
  obtain ⟨Fs, h1, h2⟩ := leaf_ownRows' (f := f) (m := m) (hf := hf) (H := H) xs
  exact .inr ⟨p, pre.length, pre, _, post, Fs, rfl, hp, by rw [flat_map_one]; exact hg, rfl, h1, by rw [h2]⟩
theorem leaf_own0 {xs : List α} {p : Nat} (hp : p < H.nxt) (hg : H.get p = some (.own (xs.map f))) : (rSlc (leafRep f m hf)).own H [.slice (some ⟨p, 0, none⟩) xs.length 1] xs [p] :=
  leaf_own' (pre := []) (post := []) hp (by simpa [mid] using hg)
theorem one_vcells {x : Value} (h : oneCell x = true) : vcells x = [x] ∧ noTup x = true := by
  cases x with
  | func fn fs cs => exact ⟨rfl, h⟩
  | _ => first | exact ⟨rfl, rfl⟩ | cases h
theorem leaf_mar (k : Nat) : ∀ (xs : List α), (mkL (leafRep f m hf).mar xs k) = ((List.range xs.length).map (fun i => m (k + i)), k + xs.length) := by
  intro xs
  induction xs generalizing k with
  | nil => rfl
  | cons x xs ih =>
    have e : (leafRep f m hf).mar x k = (m k, k + 1) := rfl
    simp only [mkL, e, ih (k + 1)]
    rw [List.length_cons, List.range_succ_eq_map, List.map_cons, List.map_map]
    refine Prod.ext ?_ (by simp; omega)
    simp only [Nat.add_zero, List.cons.injEq, true_and]
    exact List.map_congr_left (fun i _ => by simp only [Function.comp]; congr 1; omega)
end
theorem mid_len {pre A post : List Value} : (mid pre A post).length = pre.length + A.length + post.length := by simp [mid]; omega
theorem set_mid {pre A post : List Value} {i : Nat} {x : Value} (h : i < A.length) : (mid pre A post).set (pre.length + i) x = mid pre (A.set i x) post := by
  unfold mid
  rw [List.append_assoc, List.set_append_right _ _ (by omega), Nat.add_sub_cancel_left, List.set_append_left _ _ h, List.append_assoc]
/-! ### Copies of slices of plain values -/
def xToPlain (bytes : Nat) (z : Value) : XFun := (.mk 1 (.seq (.reg [(.mk (.some 2) (.mov (.const (.slice none 0 0))) none)]) (.seq (.reg [(.mk (.some 5) (.mov (.tmp 0)) none), (.mk (.some 6) (.len (.tmp 5)) none), (.mk (.some 7) (.mks 1 bytes [z] (.tmp 6) (.tmp 6)) none), (.mk (.some 3) (.mov (.tmp 7)) none)]) (.seq (.seq (.reg [(.mk (.some 4) (.mov (.const (.int (.i64) 0))) none)]) (.block 0 (.loop (.seq (.seq (.reg [(.mk (.some 8) (.mov (.tmp 4)) none), (.mk (.some 9) (.mov (.tmp 0)) none), (.mk (.some 10) (.len (.tmp 9)) none), (.mk (.some 11) (.bin (.lss) (.tmp 8) (.tmp 10)) none)]) (.cond (.tmp 11) (.skip) (.exit 0))) (.seq (.block 1 (.reg [(.mk (.some 14) (.mov (.tmp 3)) none), (.mk (.some 15) (.mov (.tmp 4)) none), (.mk (.some 16) (.mov (.tmp 0)) none), (.mk (.some 17) (.mov (.tmp 4)) none), (.mk (.some 18) (.idx 1 (.tmp 16) (.tmp 17)) none), (.mk (.some 19) (.load1 (.tmp 18)) none), (.mk (.some 20) (.idx 1 (.tmp 14) (.tmp 15)) none), (.mk none (.store 1 (.tmp 20) (.tmp 19)) none)])) (.reg [(.mk (.some 12) (.mov (.tmp 4)) none), (.mk (.some 13) (.bin (.add) (.tmp 12) (.const (.int (.i64) 1))) none), (.mk (.some 4) (.mov (.tmp 13)) none)])))))) (.seq (.reg [(.mk (.some 21) (.mov (.tmp 3)) none), (.mk (.some 2) (.mov (.tmp 21)) none)]) (.ret))))) [(.tmp 2)])
theorem toPlain_is {P : Program} {g : FuncId} {bytes : Nat} {z : Value} (hx : cfun P g = some (xToPlain bytes z)) (hb : bytes ≤ 64) {α : Type} {f : α → Value} {m : Nat → α} {hf : ∀ a, oneCell (f a) = true} : IsTo P (rSlc (leafRep f m hf)) g := by
  intro H cs xs hrd htot
  obtain ⟨v, rfl, h⟩ := leaf_rd hrd
  have hn : xs.length ≤ 1048576 := Nat.le_trans (Nat.le_add_right _ _) htot
  have hbn : bytes * xs.length ≤ 140737488355328 := Nat.le_trans (Nat.mul_le_mul hb hn) (by omega)
  refine Run.intro hx rfl ?_
  have hval : (rSlc (leafRep f m hf)).val [v] = v := rfl
  simp only [hval]
  simp (maxSteps := 4000000) (disch := omega) only [Zq, evO, vbox, wr, Zeq, if_true, if_false, Nat.reduceEqDiff, Nat.reduceAdd, Nat.reduceLeDiff, Nat.reduceSub, and_self, and_true, true_and, reduceIte, reduceCtorEq, eq_self, implies_true, forall_const, false_implies, imp_self, decide_true, decide_false, xToPlain, h.len_]
  refine G_for xs.length (fun i T H1 => T 0 = v ∧ T 3 = .slice (some ⟨H.nxt, 0, none⟩) xs.length 1 ∧ T 4 = .int .i64 (i : Int) ∧ Keep H H1 ∧ H1.nxt = H.nxt + 1 ∧ H1.get H.nxt = some (.own (upTo i (xs.map f) (List.replicate xs.length z)))) 0 (Nat.zero_le _) ?_ ?_
  · simp (maxSteps := 4000000) (disch := omega) only [Zq, evO, vbox, wr, Zeq, if_true, if_false, Nat.reduceEqDiff, Nat.reduceAdd, Nat.reduceLeDiff, Nat.reduceSub, and_self, and_true, true_and, reduceIte, reduceCtorEq, eq_self, implies_true, forall_const, false_implies, imp_self, decide_true, decide_false, upTo_0]
    refine ⟨Keep.push _ _, ?_⟩
    simp
  · rintro i T H1 hi ⟨t0, t3, t4, k1, n1, g1⟩
    have h1 := h.keep k1
    have hL : (upTo i (xs.map f) (List.replicate xs.length z)).length = xs.length := by simp [upTo]; omega
    by_cases hin : i < xs.length
    · have hget : (xs.map f)[i]? = some (f xs[i]) := by simp [List.getElem?_eq_getElem hin]
      have hset : (upTo i (xs.map f) (List.replicate xs.length z)).set i (f xs[i]) = upTo (i + 1) (xs.map f) (List.replicate xs.length z) := upTo_set (by simp) hget
      have hst : ∀ H2 : Heap, stO H2 1 H.nxt i (f xs[i]) (some (.own (upTo i (xs.map f) (List.replicate xs.length z)))) = some (undef, H2.set H.nxt (upTo (i + 1) (xs.map f) (List.replicate xs.length z))) := fun H2 => by
        obtain ⟨e1, e2⟩ := one_vcells (hf xs[i])
        rw [stO_one e2 e1 (by omega), hset]
      have hld : vld1 H1 (adr v i 1 0) = some (f xs[i], H1) := Sl.ld h1 hin (by simpa using hget)
      simp (maxSteps := 4000000) (disch := omega) only [Zq, evO, vbox, wr, Zeq, if_true, if_false, Nat.reduceEqDiff, Nat.reduceAdd, Nat.reduceLeDiff, Nat.reduceSub, and_self, and_true, true_and, reduceIte, reduceCtorEq, eq_self, implies_true, forall_const, false_implies, imp_self, decide_true, decide_false, t0, t3, t4, h1.len_, Sl.idx h1 hin, hld, g1, hst]
      exact ⟨hin, by repeat' (first | exact Keep.refl _ | assumption | refine Keep.push' ?_ | refine Keep.set' ?_ ?_ | refine Keep.moved' ?_ ?_ | omega), n1⟩
    · simp (maxSteps := 4000000) (disch := omega) only [Zq, evO, vbox, wr, Zeq, if_true, if_false, Nat.reduceEqDiff, Nat.reduceAdd, Nat.reduceLeDiff, Nat.reduceSub, and_self, and_true, true_and, reduceIte, reduceCtorEq, eq_self, implies_true, forall_const, false_implies, imp_self, decide_true, decide_false, t0, t3, t4, h1.len_]
      obtain rfl : i = xs.length := by omega
      have e : upTo xs.length (xs.map f) (List.replicate xs.length z) = xs.map f := by
        have := upTo_all (xs := xs.map f) (ys := List.replicate xs.length z) (by simp)
        rwa [List.length_map] at this
      rw [e] at g1
      exact ⟨k1, _, [H.nxt], rfl, leaf_own0 (by omega) g1, by simp, by intro i hi; simp at hi; omega⟩
/-! ### Equality of slices of plain values -/
def xEqPlain : XFun := (.mk 2 (.seq (.reg [(.mk (.some 4) (.mov (.const (.bool false))) none)]) (.seq (.seq (.reg [(.mk (.some 6) (.mov (.tmp 0)) none), (.mk (.some 7) (.len (.tmp 6)) none), (.mk (.some 8) (.mov (.tmp 1)) none), (.mk (.some 9) (.len (.tmp 8)) none), (.mk (.some 10) (.bin (.neq) (.tmp 7) (.tmp 9)) none)]) (.cond (.tmp 10) (.seq (.reg [(.mk (.some 4) (.mov (.const (.bool false))) none)]) (.ret)) (.skip))) (.seq (.seq (.reg [(.mk (.some 5) (.mov (.const (.int (.i64) 0))) none)]) (.block 0 (.loop (.seq (.seq (.reg [(.mk (.some 11) (.mov (.tmp 5)) none), (.mk (.some 12) (.mov (.tmp 0)) none), (.mk (.some 13) (.len (.tmp 12)) none), (.mk (.some 14) (.bin (.lss) (.tmp 11) (.tmp 13)) none)]) (.cond (.tmp 14) (.skip) (.exit 0))) (.seq (.block 1 (.seq (.dreg [[], [], [0, 1], [2, 0, 1], [], [], [4, 5], [6, 4, 5], [3, 2, 0, 1, 7, 6, 4, 5]] [(.mk (.some 17) (.mov (.tmp 0)) none), (.mk (.some 18) (.mov (.tmp 5)) none), (.mk (.some 19) (.idx 1 (.tmp 17) (.tmp 18)) none), (.mk (.some 20) (.load1 (.tmp 19)) none), (.mk (.some 21) (.mov (.tmp 1)) none), (.mk (.some 22) (.mov (.tmp 5)) none), (.mk (.some 23) (.idx 1 (.tmp 21) (.tmp 22)) none), (.mk (.some 24) (.load1 (.tmp 23)) none), (.mk (.some 25) (.bin (.neq) (.tmp 20) (.tmp 24)) none)]) (.cond (.tmp 25) (.seq (.reg [(.mk (.some 4) (.mov (.const (.bool false))) none)]) (.ret)) (.skip)))) (.reg [(.mk (.some 15) (.mov (.tmp 5)) none), (.mk (.some 16) (.bin (.add) (.tmp 15) (.const (.int (.i64) 1))) none), (.mk (.some 5) (.mov (.tmp 16)) none)])))))) (.seq (.reg [(.mk (.some 4) (.mov (.const (.bool true))) none)]) (.ret))))) [(.tmp 4)])
theorem eqPlain_is {P : Program} {g : FuncId} (hx : cfun P g = some xEqPlain) {α : Type} {f : α → Value} {m : Nat → α} {hf : ∀ a, oneCell (f a) = true} (hne : ∀ a, abin .neq (f a) (f a) = some (.bool false)) : IsEq P (rSlc (leafRep f m hf)) g := by
  intro H cs ds xs hrd hrd' htot
  obtain ⟨v, rfl, h⟩ := leaf_rd hrd
  obtain ⟨w, rfl, h'⟩ := leaf_rd hrd'
  have hn : xs.length ≤ 4611686018427387904 := Nat.le_trans (Nat.le_add_right _ _) htot
  refine Run.intro hx rfl ?_
  have hval : ∀ v, (rSlc (leafRep f m hf)).val [v] = v := fun _ => rfl
  simp only [hval]
  simp (maxSteps := 4000000) (disch := omega) only [Zq, evO, vbox, wr, Zeq, if_true, if_false, Nat.reduceEqDiff, Nat.reduceAdd, Nat.reduceLeDiff, Nat.reduceSub, and_self, and_true, true_and, reduceIte, reduceCtorEq, eq_self, implies_true, forall_const, false_implies, imp_self, decide_true, decide_false, xEqPlain, h.len_, h'.len_]
  refine G_for xs.length (fun i T H1 => T 0 = v ∧ T 1 = w ∧ T 5 = .int .i64 (i : Int) ∧ Keep H H1) 0 (Nat.zero_le _) ?_ ?_
  · simp (maxSteps := 4000000) (disch := omega) only [Zq, evO, vbox, wr, Zeq, if_true, if_false, Nat.reduceEqDiff, Nat.reduceAdd, Nat.reduceLeDiff, Nat.reduceSub, and_self, and_true, true_and, reduceIte, reduceCtorEq, eq_self, implies_true, forall_const, false_implies, imp_self, decide_true, decide_false]
    repeat' (first | exact Keep.refl _ | assumption | refine Keep.push' ?_ | refine Keep.set' ?_ ?_ | refine Keep.moved' ?_ ?_ | omega)
  · rintro i T H1 hi ⟨t0, t1, t5, k1⟩
    have h1 := h.keep k1
    have h1' := h'.keep k1
    by_cases hin : i < xs.length
    · have hget : (xs.map f)[i]? = some (f xs[i]) := by simp [List.getElem?_eq_getElem hin]
      have hld : vld1 H1 (adr v i 1 0) = some (f xs[i], H1) := Sl.ld h1 hin (by simpa using hget)
      have hld' : vld1 H1 (adr w i 1 0) = some (f xs[i], H1) := Sl.ld h1' hin (by simpa using hget)
      simp (maxSteps := 4000000) (disch := omega) only [Zq, evO, vbox, wr, Zeq, if_true, if_false, Nat.reduceEqDiff, Nat.reduceAdd, Nat.reduceLeDiff, Nat.reduceSub, and_self, and_true, true_and, reduceIte, reduceCtorEq, eq_self, implies_true, forall_const, false_implies, imp_self, decide_true, decide_false, t0, t1, t5, h1.len_]
      refine G_calm rfl ?_
      simp (maxSteps := 4000000) (disch := omega) only [Zq, evO, vbox, wr, Zeq, if_true, if_false, Nat.reduceEqDiff, Nat.reduceAdd, Nat.reduceLeDiff, Nat.reduceSub, and_self, and_true, true_and, reduceIte, reduceCtorEq, eq_self, implies_true, forall_const, false_implies, imp_self, decide_true, decide_false, t0, t1, t5, Sl.idx h1 hin, hld, Sl.idx h1' hin, hld', hne]
      exact ⟨hin, k1⟩
    · simp (maxSteps := 4000000) (disch := omega) only [Zq, evO, vbox, wr, Zeq, if_true, if_false, Nat.reduceEqDiff, Nat.reduceAdd, Nat.reduceLeDiff, Nat.reduceSub, and_self, and_true, true_and, reduceIte, reduceCtorEq, eq_self, implies_true, forall_const, false_implies, imp_self, decide_true, decide_false, t0, t1, t5, h1.len_]
      exact k1
def xEqBool : XFun := (.mk 2 (.seq (.reg [(.mk (.some 4) (.mov (.const (.bool false))) none)]) (.seq (.seq (.reg [(.mk (.some 6) (.mov (.tmp 0)) none), (.mk (.some 7) (.len (.tmp 6)) none), (.mk (.some 8) (.mov (.tmp 1)) none), (.mk (.some 9) (.len (.tmp 8)) none), (.mk (.some 10) (.bin (.neq) (.tmp 7) (.tmp 9)) none)]) (.cond (.tmp 10) (.seq (.reg [(.mk (.some 4) (.mov (.const (.bool false))) none)]) (.ret)) (.skip))) (.seq (.seq (.reg [(.mk (.some 5) (.mov (.const (.int (.i64) 0))) none)]) (.block 0 (.loop (.seq (.seq (.reg [(.mk (.some 11) (.mov (.tmp 5)) none), (.mk (.some 12) (.mov (.tmp 0)) none), (.mk (.some 13) (.len (.tmp 12)) none), (.mk (.some 14) (.bin (.lss) (.tmp 11) (.tmp 13)) none)]) (.cond (.tmp 14) (.skip) (.exit 0))) (.seq (.block 1 (.seq (.dreg [[], [], [0, 1], [2, 0, 1], [], [], [4, 5], [6, 4, 5], [3, 2, 0, 1, 7, 6, 4, 5]] [(.mk (.some 17) (.mov (.tmp 0)) none), (.mk (.some 18) (.mov (.tmp 5)) none), (.mk (.some 19) (.idx 1 (.tmp 17) (.tmp 18)) none), (.mk (.some 20) (.load1 (.tmp 19)) none), (.mk (.some 21) (.mov (.tmp 1)) none), (.mk (.some 22) (.mov (.tmp 5)) none), (.mk (.some 23) (.idx 1 (.tmp 21) (.tmp 22)) none), (.mk (.some 24) (.load1 (.tmp 23)) none), (.mk (.some 25) (.binB true (.tmp 20) (.tmp 24)) none)]) (.cond (.tmp 25) (.seq (.reg [(.mk (.some 4) (.mov (.const (.bool false))) none)]) (.ret)) (.skip)))) (.reg [(.mk (.some 15) (.mov (.tmp 5)) none), (.mk (.some 16) (.bin (.add) (.tmp 15) (.const (.int (.i64) 1))) none), (.mk (.some 5) (.mov (.tmp 16)) none)])))))) (.seq (.reg [(.mk (.some 4) (.mov (.const (.bool true))) none)]) (.ret))))) [(.tmp 4)])
theorem eqBool_is {P : Program} {g : FuncId} (hx : cfun P g = some xEqBool) {α : Type} {f : α → Value} {m : Nat → α} {hf : ∀ a, oneCell (f a) = true} (hne : ∀ (H : Heap) (a : α), vbinB H true (f a) (f a) = some (.bool false, H)) : IsEq P (rSlc (leafRep f m hf)) g := by
  intro H cs ds xs hrd hrd' htot
  obtain ⟨v, rfl, h⟩ := leaf_rd hrd
  obtain ⟨w, rfl, h'⟩ := leaf_rd hrd'
  have hn : xs.length ≤ 4611686018427387904 := Nat.le_trans (Nat.le_add_right _ _) htot
  refine Run.intro hx rfl ?_
  have hval : ∀ v, (rSlc (leafRep f m hf)).val [v] = v := fun _ => rfl
  simp only [hval]
  simp (maxSteps := 4000000) (disch := omega) only [Zq, evO, vbox, wr, Zeq, if_true, if_false, Nat.reduceEqDiff, Nat.reduceAdd, Nat.reduceLeDiff, Nat.reduceSub, and_self, and_true, true_and, reduceIte, reduceCtorEq, eq_self, implies_true, forall_const, false_implies, imp_self, decide_true, decide_false, xEqBool, h.len_, h'.len_]
  refine G_for xs.length (fun i T H1 => T 0 = v ∧ T 1 = w ∧ T 5 = .int .i64 (i : Int) ∧ Keep H H1) 0 (Nat.zero_le _) ?_ ?_
  · simp (maxSteps := 4000000) (disch := omega) only [Zq, evO, vbox, wr, Zeq, if_true, if_false, Nat.reduceEqDiff, Nat.reduceAdd, Nat.reduceLeDiff, Nat.reduceSub, and_self, and_true, true_and, reduceIte, reduceCtorEq, eq_self, implies_true, forall_const, false_implies, imp_self, decide_true, decide_false]
    repeat' (first | exact Keep.refl _ | assumption | refine Keep.push' ?_ | refine Keep.set' ?_ ?_ | refine Keep.moved' ?_ ?_ | omega)
  · rintro i T H1 hi ⟨t0, t1, t5, k1⟩
    have h1 := h.keep k1
    have h1' := h'.keep k1
    by_cases hin : i < xs.length
    · have hget : (xs.map f)[i]? = some (f xs[i]) := by simp [List.getElem?_eq_getElem hin]
      have hld : vld1 H1 (adr v i 1 0) = some (f xs[i], H1) := Sl.ld h1 hin (by simpa using hget)
      have hld' : vld1 H1 (adr w i 1 0) = some (f xs[i], H1) := Sl.ld h1' hin (by simpa using hget)
      simp (maxSteps := 4000000) (disch := omega) only [Zq, evO, vbox, wr, Zeq, if_true, if_false, Nat.reduceEqDiff, Nat.reduceAdd, Nat.reduceLeDiff, Nat.reduceSub, and_self, and_true, true_and, reduceIte, reduceCtorEq, eq_self, implies_true, forall_const, false_implies, imp_self, decide_true, decide_false, t0, t1, t5, h1.len_]
      refine G_calm rfl ?_
      simp (maxSteps := 4000000) (disch := omega) only [Zq, evO, vbox, wr, Zeq, if_true, if_false, Nat.reduceEqDiff, Nat.reduceAdd, Nat.reduceLeDiff, Nat.reduceSub, and_self, and_true, true_and, reduceIte, reduceCtorEq, eq_self, implies_true, forall_const, false_implies, imp_self, decide_true, decide_false, t0, t1, t5, Sl.idx h1 hin, hld, Sl.idx h1' hin, hld', hne]
      exact ⟨hin, k1⟩
    · simp (maxSteps := 4000000) (disch := omega) only [Zq, evO, vbox, wr, Zeq, if_true, if_false, Nat.reduceEqDiff, Nat.reduceAdd, Nat.reduceLeDiff, Nat.reduceSub, and_self, and_true, true_and, reduceIte, reduceCtorEq, eq_self, implies_true, forall_const, false_implies, imp_self, decide_true, decide_false, t0, t1, t5, h1.len_]
      exact k1
/-! ### Marks on slices of plain values -/
theorem wrap8 (n : Nat) : IntKind.u8.wrap (n : Int) = ((n % 256 : Nat) : Int) := by
  simp only [IntKind.wrap, IntKind.bits, IntKind.signed, Bool.false_and]
  simp
def xMarkInt : XFun := (.mk 2 (.seq (.reg [(.mk (.some 4) (.mov (.const (.int (.i64) 0))) none)]) (.seq (.seq (.reg [(.mk (.some 5) (.mov (.const (.int (.i64) 0))) none)]) (.block 0 (.loop (.seq (.seq (.reg [(.mk (.some 6) (.mov (.tmp 5)) none), (.mk (.some 7) (.mov (.tmp 0)) none), (.mk (.some 8) (.len (.tmp 7)) none), (.mk (.some 9) (.bin (.lss) (.tmp 6) (.tmp 8)) none)]) (.cond (.tmp 9) (.skip) (.exit 0))) (.seq (.block 1 (.seq (.reg [(.mk (.some 12) (.mov (.tmp 0)) none), (.mk (.some 13) (.mov (.tmp 5)) none), (.mk (.some 14) (.mov (.tmp 1)) none), (.mk (.some 15) (.idx 1 (.tmp 12) (.tmp 13)) none), (.mk none (.store 1 (.tmp 15) (.tmp 14)) none)]) (.reg [(.mk (.some 16) (.mov (.tmp 1)) none), (.mk (.some 17) (.bin (.add) (.tmp 16) (.const (.int (.i64) 1))) none), (.mk (.some 1) (.mov (.tmp 17)) none)]))) (.reg [(.mk (.some 10) (.mov (.tmp 5)) none), (.mk (.some 11) (.bin (.add) (.tmp 10) (.const (.int (.i64) 1))) none), (.mk (.some 5) (.mov (.tmp 11)) none)])))))) (.seq (.reg [(.mk (.some 18) (.mov (.tmp 1)) none), (.mk (.some 4) (.mov (.tmp 18)) none)]) (.ret)))) [(.tmp 4)])
theorem markMarkInt_is {P : Program} {g : FuncId} (hx : cfun P g = some xMarkInt) : IsMark P (rSlc rInt) (rSlc rInt).mar g := by
  intro H cs xs F k hown hnd hk
  have hn : k + 99 * xs.length ≤ 4611686018427387904 := Nat.le_trans (by have : 99 * xs.length ≤ 99 * (rSlc rInt).tot xs := Nat.mul_le_mul_left _ (Nat.le_add_right _ _); omega) hk
  have hmar : (rSlc rInt).mar xs k = ((List.range xs.length).map (fun i => ((k + i : Nat) : Int)), k + xs.length) := leaf_mar k xs
  rw [hmar]
  have hlen : ((List.range xs.length).map (fun i => ((k + i : Nat) : Int))).length = xs.length := by simp
  refine Run.intro hx rfl ?_
  have hval : (rSlc rInt).val cs = one1 cs := rfl
  rcases leaf_own hown with ⟨rfl, rfl, rfl⟩ | ⟨p, pre, post, rfl, hp, hg, rfl⟩
  · simp only [hval, one1]
    simp (maxSteps := 4000000) (disch := omega) only [Zq, evO, vbox, wr, Zeq, if_true, if_false, Nat.reduceEqDiff, Nat.reduceAdd, Nat.reduceLeDiff, Nat.reduceSub, and_self, and_true, true_and, reduceIte, reduceCtorEq, eq_self, implies_true, forall_const, false_implies, imp_self, decide_true, decide_false, xMarkInt]
    refine G_for 0 (fun i T H1 => T 0 = .slice none 0 0 ∧ T 1 = .int .i64 (k : Int) ∧ T 5 = .int .i64 (0 : Int) ∧ Chg [] H H1) 0 (Nat.zero_le _) ?_ ?_
    · simp (maxSteps := 4000000) (disch := omega) only [Zq, evO, vbox, wr, Zeq, if_true, if_false, Nat.reduceEqDiff, Nat.reduceAdd, Nat.reduceLeDiff, Nat.reduceSub, and_self, and_true, true_and, reduceIte, reduceCtorEq, eq_self, implies_true, forall_const, false_implies, imp_self, decide_true, decide_false]
      exact Chg.refl _ _
    · rintro i T H1 hi ⟨t0, t1, t5, k1⟩
      obtain rfl : i = 0 := by omega
      simp (maxSteps := 4000000) (disch := omega) only [Zq, evO, vbox, wr, Zeq, if_true, if_false, Nat.reduceEqDiff, Nat.reduceAdd, Nat.reduceLeDiff, Nat.reduceSub, and_self, and_true, true_and, reduceIte, reduceCtorEq, eq_self, implies_true, forall_const, false_implies, imp_self, decide_true, decide_false, t0, t1, t5]
      exact ⟨k1, .inl ⟨rfl, rfl, rfl⟩⟩
  · simp only [hval, one1]
    simp (maxSteps := 4000000) (disch := omega) only [Zq, evO, vbox, wr, Zeq, if_true, if_false, Nat.reduceEqDiff, Nat.reduceAdd, Nat.reduceLeDiff, Nat.reduceSub, and_self, and_true, true_and, reduceIte, reduceCtorEq, eq_self, implies_true, forall_const, false_implies, imp_self, decide_true, decide_false, xMarkInt]
    refine G_for xs.length (fun i T H1 => T 0 = .slice (some ⟨p, pre.length, none⟩) xs.length 1 ∧ T 1 = .int .i64 ((k + i : Nat) : Int) ∧ T 5 = .int .i64 (i : Int) ∧ Chg [p] H H1 ∧
      H1.get p = some (.own (mid pre (upTo i (((List.range xs.length).map (fun i => ((k + i : Nat) : Int))).map (Value.int .i64)) (xs.map (Value.int .i64))) post))) 0 (Nat.zero_le _) ?_ ?_
    · simp (maxSteps := 4000000) (disch := omega) only [Zq, evO, vbox, wr, Zeq, if_true, if_false, Nat.reduceEqDiff, Nat.reduceAdd, Nat.reduceLeDiff, Nat.reduceSub, and_self, and_true, true_and, reduceIte, reduceCtorEq, eq_self, implies_true, forall_const, false_implies, imp_self, decide_true, decide_false, upTo_0]
      exact ⟨Chg.refl _ _, hg⟩
    · rintro i T H1 hi ⟨t0, t1, t5, k1, g1⟩
      have hL : (upTo i (((List.range xs.length).map (fun i => ((k + i : Nat) : Int))).map (Value.int .i64)) (xs.map (Value.int .i64))).length = xs.length := by simp [upTo]; omega
      by_cases hin : i < xs.length
      · have hget : (((List.range xs.length).map (fun i => ((k + i : Nat) : Int))).map (Value.int .i64))[i]? = some (Value.int .i64 (((k + i : Nat) : Int))) := by simp [hin]
        have hset := upTo_set (ys := xs.map (Value.int .i64)) (by simp) hget
        have hst : ∀ H2 : Heap, stO H2 1 p (pre.length + i) (Value.int .i64 (((k + i : Nat) : Int))) (some (.own (mid pre (upTo i (((List.range xs.length).map (fun i => ((k + i : Nat) : Int))).map (Value.int .i64)) (xs.map (Value.int .i64))) post))) = some (undef, H2.set p (mid pre (upTo (i + 1) (((List.range xs.length).map (fun i => ((k + i : Nat) : Int))).map (Value.int .i64)) (xs.map (Value.int .i64))) post)) := fun H2 => by
          rw [stO_one rfl rfl (by rw [mid_len]; omega), set_mid (by omega), hset]
        have hconv : True := trivial
        simp (maxSteps := 4000000) (disch := omega) only [Zq, evO, vbox, wr, Zeq, if_true, if_false, Nat.reduceEqDiff, Nat.reduceAdd, Nat.reduceLeDiff, Nat.reduceSub, and_self, and_true, true_and, reduceIte, reduceCtorEq, eq_self, implies_true, forall_const, false_implies, imp_self, decide_true, decide_false, t0, t1, t5, g1, hst, hconv]
        exact ⟨hin, k1.trans (Chg.set (by simp))⟩
      · simp (maxSteps := 4000000) (disch := omega) only [Zq, evO, vbox, wr, Zeq, if_true, if_false, Nat.reduceEqDiff, Nat.reduceAdd, Nat.reduceLeDiff, Nat.reduceSub, and_self, and_true, true_and, reduceIte, reduceCtorEq, eq_self, implies_true, forall_const, false_implies, imp_self, decide_true, decide_false, t0, t1, t5]
        obtain rfl : i = xs.length := by omega
        have e := upTo_all (xs := ((List.range xs.length).map (fun i => ((k + i : Nat) : Int))).map (Value.int .i64)) (ys := xs.map (Value.int .i64)) (by simp)
        rw [List.length_map, hlen] at e
        rw [e] at g1
        refine ⟨k1, ?_, rfl⟩
        have := (leaf_own' (Nat.lt_of_lt_of_le hp k1.nxt) g1 : (rSlc rInt).own H1 [.slice (some ⟨p, pre.length, none⟩) ((List.range xs.length).map (fun i => ((k + i : Nat) : Int))).length 1] ((List.range xs.length).map (fun i => ((k + i : Nat) : Int))) [p])
        rw [hlen] at this
        exact this
def xMarkByte : XFun := (.mk 2 (.seq (.reg [(.mk (.some 4) (.mov (.const (.int (.i64) 0))) none)]) (.seq (.seq (.reg [(.mk (.some 5) (.mov (.const (.int (.i64) 0))) none)]) (.block 0 (.loop (.seq (.seq (.reg [(.mk (.some 6) (.mov (.tmp 5)) none), (.mk (.some 7) (.mov (.tmp 0)) none), (.mk (.some 8) (.len (.tmp 7)) none), (.mk (.some 9) (.bin (.lss) (.tmp 6) (.tmp 8)) none)]) (.cond (.tmp 9) (.skip) (.exit 0))) (.seq (.block 1 (.seq (.reg [(.mk (.some 12) (.mov (.tmp 0)) none), (.mk (.some 13) (.mov (.tmp 5)) none), (.mk (.some 14) (.mov (.tmp 1)) none), (.mk (.some 15) (.toInt (.u8) (.tmp 14)) none), (.mk (.some 16) (.idx 1 (.tmp 12) (.tmp 13)) none), (.mk none (.store 1 (.tmp 16) (.tmp 15)) none)]) (.reg [(.mk (.some 17) (.mov (.tmp 1)) none), (.mk (.some 18) (.bin (.add) (.tmp 17) (.const (.int (.i64) 1))) none), (.mk (.some 1) (.mov (.tmp 18)) none)]))) (.reg [(.mk (.some 10) (.mov (.tmp 5)) none), (.mk (.some 11) (.bin (.add) (.tmp 10) (.const (.int (.i64) 1))) none), (.mk (.some 5) (.mov (.tmp 11)) none)])))))) (.seq (.reg [(.mk (.some 19) (.mov (.tmp 1)) none), (.mk (.some 4) (.mov (.tmp 19)) none)]) (.ret)))) [(.tmp 4)])
theorem markMarkByte_is {P : Program} {g : FuncId} (hx : cfun P g = some xMarkByte) : IsMark P (rSlc rByte) (rSlc rByte).mar g := by
  intro H cs xs F k hown hnd hk
  have hn : k + 99 * xs.length ≤ 4611686018427387904 := Nat.le_trans (by have : 99 * xs.length ≤ 99 * (rSlc rByte).tot xs := Nat.mul_le_mul_left _ (Nat.le_add_right _ _); omega) hk
  have hmar : (rSlc rByte).mar xs k = ((List.range xs.length).map (fun i => (((k + i) % 256 : Nat) : Int)), k + xs.length) := leaf_mar k xs
  rw [hmar]
  have hlen : ((List.range xs.length).map (fun i => (((k + i) % 256 : Nat) : Int))).length = xs.length := by simp
  refine Run.intro hx rfl ?_
  have hval : (rSlc rByte).val cs = one1 cs := rfl
  rcases leaf_own hown with ⟨rfl, rfl, rfl⟩ | ⟨p, pre, post, rfl, hp, hg, rfl⟩
  · simp only [hval, one1]
    simp (maxSteps := 4000000) (disch := omega) only [Zq, evO, vbox, wr, Zeq, if_true, if_false, Nat.reduceEqDiff, Nat.reduceAdd, Nat.reduceLeDiff, Nat.reduceSub, and_self, and_true, true_and, reduceIte, reduceCtorEq, eq_self, implies_true, forall_const, false_implies, imp_self, decide_true, decide_false, xMarkByte]
    refine G_for 0 (fun i T H1 => T 0 = .slice none 0 0 ∧ T 1 = .int .i64 (k : Int) ∧ T 5 = .int .i64 (0 : Int) ∧ Chg [] H H1) 0 (Nat.zero_le _) ?_ ?_
    · simp (maxSteps := 4000000) (disch := omega) only [Zq, evO, vbox, wr, Zeq, if_true, if_false, Nat.reduceEqDiff, Nat.reduceAdd, Nat.reduceLeDiff, Nat.reduceSub, and_self, and_true, true_and, reduceIte, reduceCtorEq, eq_self, implies_true, forall_const, false_implies, imp_self, decide_true, decide_false]
      exact Chg.refl _ _
    · rintro i T H1 hi ⟨t0, t1, t5, k1⟩
      obtain rfl : i = 0 := by omega
      simp (maxSteps := 4000000) (disch := omega) only [Zq, evO, vbox, wr, Zeq, if_true, if_false, Nat.reduceEqDiff, Nat.reduceAdd, Nat.reduceLeDiff, Nat.reduceSub, and_self, and_true, true_and, reduceIte, reduceCtorEq, eq_self, implies_true, forall_const, false_implies, imp_self, decide_true, decide_false, t0, t1, t5]
      exact ⟨k1, .inl ⟨rfl, rfl, rfl⟩⟩
  · simp only [hval, one1]
    simp (maxSteps := 4000000) (disch := omega) only [Zq, evO, vbox, wr, Zeq, if_true, if_false, Nat.reduceEqDiff, Nat.reduceAdd, Nat.reduceLeDiff, Nat.reduceSub, and_self, and_true, true_and, reduceIte, reduceCtorEq, eq_self, implies_true, forall_const, false_implies, imp_self, decide_true, decide_false, xMarkByte]
    refine G_for xs.length (fun i T H1 => T 0 = .slice (some ⟨p, pre.length, none⟩) xs.length 1 ∧ T 1 = .int .i64 ((k + i : Nat) : Int) ∧ T 5 = .int .i64 (i : Int) ∧ Chg [p] H H1 ∧
      H1.get p = some (.own (mid pre (upTo i (((List.range xs.length).map (fun i => (((k + i) % 256 : Nat) : Int))).map (Value.int .u8)) (xs.map (Value.int .u8))) post))) 0 (Nat.zero_le _) ?_ ?_
    · simp (maxSteps := 4000000) (disch := omega) only [Zq, evO, vbox, wr, Zeq, if_true, if_false, Nat.reduceEqDiff, Nat.reduceAdd, Nat.reduceLeDiff, Nat.reduceSub, and_self, and_true, true_and, reduceIte, reduceCtorEq, eq_self, implies_true, forall_const, false_implies, imp_self, decide_true, decide_false, upTo_0]
      exact ⟨Chg.refl _ _, hg⟩
    · rintro i T H1 hi ⟨t0, t1, t5, k1, g1⟩
      have hL : (upTo i (((List.range xs.length).map (fun i => (((k + i) % 256 : Nat) : Int))).map (Value.int .u8)) (xs.map (Value.int .u8))).length = xs.length := by simp [upTo]; omega
      by_cases hin : i < xs.length
      · have hget : (((List.range xs.length).map (fun i => (((k + i) % 256 : Nat) : Int))).map (Value.int .u8))[i]? = some (Value.int .u8 ((((k + i) % 256 : Nat) : Int))) := by simp [hin]
        have hset := upTo_set (ys := xs.map (Value.int .u8)) (by simp) hget
        have hst : ∀ H2 : Heap, stO H2 1 p (pre.length + i) (Value.int .u8 ((((k + i) % 256 : Nat) : Int))) (some (.own (mid pre (upTo i (((List.range xs.length).map (fun i => (((k + i) % 256 : Nat) : Int))).map (Value.int .u8)) (xs.map (Value.int .u8))) post))) = some (undef, H2.set p (mid pre (upTo (i + 1) (((List.range xs.length).map (fun i => (((k + i) % 256 : Nat) : Int))).map (Value.int .u8)) (xs.map (Value.int .u8))) post)) := fun H2 => by
          rw [stO_one rfl rfl (by rw [mid_len]; omega), set_mid (by omega), hset]
        have hconv : IntKind.u8.wrap ((k + i : Nat) : Int) = (((k + i) % 256 : Nat) : Int) := wrap8 _
        simp (maxSteps := 4000000) (disch := omega) only [Zq, evO, vbox, wr, Zeq, if_true, if_false, Nat.reduceEqDiff, Nat.reduceAdd, Nat.reduceLeDiff, Nat.reduceSub, and_self, and_true, true_and, reduceIte, reduceCtorEq, eq_self, implies_true, forall_const, false_implies, imp_self, decide_true, decide_false, t0, t1, t5, g1, hst, hconv]
        exact ⟨hin, k1.trans (Chg.set (by simp))⟩
      · simp (maxSteps := 4000000) (disch := omega) only [Zq, evO, vbox, wr, Zeq, if_true, if_false, Nat.reduceEqDiff, Nat.reduceAdd, Nat.reduceLeDiff, Nat.reduceSub, and_self, and_true, true_and, reduceIte, reduceCtorEq, eq_self, implies_true, forall_const, false_implies, imp_self, decide_true, decide_false, t0, t1, t5]
        obtain rfl : i = xs.length := by omega
        have e := upTo_all (xs := ((List.range xs.length).map (fun i => (((k + i) % 256 : Nat) : Int))).map (Value.int .u8)) (ys := xs.map (Value.int .u8)) (by simp)
        rw [List.length_map, hlen] at e
        rw [e] at g1
        refine ⟨k1, ?_, rfl⟩
        have := (leaf_own' (Nat.lt_of_lt_of_le hp k1.nxt) g1 : (rSlc rByte).own H1 [.slice (some ⟨p, pre.length, none⟩) ((List.range xs.length).map (fun i => (((k + i) % 256 : Nat) : Int))).length 1] ((List.range xs.length).map (fun i => (((k + i) % 256 : Nat) : Int))) [p])
        rw [hlen] at this
        exact this
def xMarkBool : XFun := (.mk 2 (.seq (.reg [(.mk (.some 4) (.mov (.const (.int (.i64) 0))) none)]) (.seq (.seq (.reg [(.mk (.some 5) (.mov (.const (.int (.i64) 0))) none)]) (.block 0 (.loop (.seq (.seq (.reg [(.mk (.some 6) (.mov (.tmp 5)) none), (.mk (.some 7) (.mov (.tmp 0)) none), (.mk (.some 8) (.len (.tmp 7)) none), (.mk (.some 9) (.bin (.lss) (.tmp 6) (.tmp 8)) none)]) (.cond (.tmp 9) (.skip) (.exit 0))) (.seq (.block 1 (.seq (.reg [(.mk (.some 12) (.mov (.tmp 0)) none), (.mk (.some 13) (.mov (.tmp 5)) none), (.mk (.some 14) (.mov (.tmp 1)) none), (.mk (.some 15) (.bin (.rem) (.tmp 14) (.const (.int (.i64) 3))) none), (.mk (.some 16) (.bin (.eql) (.tmp 15) (.const (.int (.i64) 0))) none), (.mk (.some 17) (.idx 1 (.tmp 12) (.tmp 13)) none), (.mk none (.store 1 (.tmp 17) (.tmp 16)) none)]) (.reg [(.mk (.some 18) (.mov (.tmp 1)) none), (.mk (.some 19) (.bin (.add) (.tmp 18) (.const (.int (.i64) 1))) none), (.mk (.some 1) (.mov (.tmp 19)) none)]))) (.reg [(.mk (.some 10) (.mov (.tmp 5)) none), (.mk (.some 11) (.bin (.add) (.tmp 10) (.const (.int (.i64) 1))) none), (.mk (.some 5) (.mov (.tmp 11)) none)])))))) (.seq (.reg [(.mk (.some 20) (.mov (.tmp 1)) none), (.mk (.some 4) (.mov (.tmp 20)) none)]) (.ret)))) [(.tmp 4)])
theorem markMarkBool_is {P : Program} {g : FuncId} (hx : cfun P g = some xMarkBool) : IsMark P (rSlc rBool) (rSlc rBool).mar g := by
  intro H cs xs F k hown hnd hk
  have hn : k + 99 * xs.length ≤ 4611686018427387904 := Nat.le_trans (by have : 99 * xs.length ≤ 99 * (rSlc rBool).tot xs := Nat.mul_le_mul_left _ (Nat.le_add_right _ _); omega) hk
  have hmar : (rSlc rBool).mar xs k = ((List.range xs.length).map (fun i => decide ((k + i) % 3 = 0)), k + xs.length) := leaf_mar k xs
  rw [hmar]
  have hlen : ((List.range xs.length).map (fun i => decide ((k + i) % 3 = 0))).length = xs.length := by simp
  refine Run.intro hx rfl ?_
  have hval : (rSlc rBool).val cs = one1 cs := rfl
  rcases leaf_own hown with ⟨rfl, rfl, rfl⟩ | ⟨p, pre, post, rfl, hp, hg, rfl⟩
  · simp only [hval, one1]
    simp (maxSteps := 4000000) (disch := omega) only [Zq, evO, vbox, wr, Zeq, if_true, if_false, Nat.reduceEqDiff, Nat.reduceAdd, Nat.reduceLeDiff, Nat.reduceSub, and_self, and_true, true_and, reduceIte, reduceCtorEq, eq_self, implies_true, forall_const, false_implies, imp_self, decide_true, decide_false, xMarkBool]
    refine G_for 0 (fun i T H1 => T 0 = .slice none 0 0 ∧ T 1 = .int .i64 (k : Int) ∧ T 5 = .int .i64 (0 : Int) ∧ Chg [] H H1) 0 (Nat.zero_le _) ?_ ?_
    · simp (maxSteps := 4000000) (disch := omega) only [Zq, evO, vbox, wr, Zeq, if_true, if_false, Nat.reduceEqDiff, Nat.reduceAdd, Nat.reduceLeDiff, Nat.reduceSub, and_self, and_true, true_and, reduceIte, reduceCtorEq, eq_self, implies_true, forall_const, false_implies, imp_self, decide_true, decide_false]
      exact Chg.refl _ _
    · rintro i T H1 hi ⟨t0, t1, t5, k1⟩
      obtain rfl : i = 0 := by omega
      simp (maxSteps := 4000000) (disch := omega) only [Zq, evO, vbox, wr, Zeq, if_true, if_false, Nat.reduceEqDiff, Nat.reduceAdd, Nat.reduceLeDiff, Nat.reduceSub, and_self, and_true, true_and, reduceIte, reduceCtorEq, eq_self, implies_true, forall_const, false_implies, imp_self, decide_true, decide_false, t0, t1, t5]
      exact ⟨k1, .inl ⟨rfl, rfl, rfl⟩⟩
  · simp only [hval, one1]
    simp (maxSteps := 4000000) (disch := omega) only [Zq, evO, vbox, wr, Zeq, if_true, if_false, Nat.reduceEqDiff, Nat.reduceAdd, Nat.reduceLeDiff, Nat.reduceSub, and_self, and_true, true_and, reduceIte, reduceCtorEq, eq_self, implies_true, forall_const, false_implies, imp_self, decide_true, decide_false, xMarkBool]
    refine G_for xs.length (fun i T H1 => T 0 = .slice (some ⟨p, pre.length, none⟩) xs.length 1 ∧ T 1 = .int .i64 ((k + i : Nat) : Int) ∧ T 5 = .int .i64 (i : Int) ∧ Chg [p] H H1 ∧
      H1.get p = some (.own (mid pre (upTo i (((List.range xs.length).map (fun i => decide ((k + i) % 3 = 0))).map (Value.bool)) (xs.map (Value.bool))) post))) 0 (Nat.zero_le _) ?_ ?_
    · simp (maxSteps := 4000000) (disch := omega) only [Zq, evO, vbox, wr, Zeq, if_true, if_false, Nat.reduceEqDiff, Nat.reduceAdd, Nat.reduceLeDiff, Nat.reduceSub, and_self, and_true, true_and, reduceIte, reduceCtorEq, eq_self, implies_true, forall_const, false_implies, imp_self, decide_true, decide_false, upTo_0]
      exact ⟨Chg.refl _ _, hg⟩
    · rintro i T H1 hi ⟨t0, t1, t5, k1, g1⟩
      have hL : (upTo i (((List.range xs.length).map (fun i => decide ((k + i) % 3 = 0))).map (Value.bool)) (xs.map (Value.bool))).length = xs.length := by simp [upTo]; omega
      by_cases hin : i < xs.length
      · have hget : (((List.range xs.length).map (fun i => decide ((k + i) % 3 = 0))).map (Value.bool))[i]? = some (Value.bool (decide ((k + i) % 3 = 0))) := by simp [hin]
        have hset := upTo_set (ys := xs.map (Value.bool)) (by simp) hget
        have hst : ∀ H2 : Heap, stO H2 1 p (pre.length + i) (Value.bool (decide ((k + i) % 3 = 0))) (some (.own (mid pre (upTo i (((List.range xs.length).map (fun i => decide ((k + i) % 3 = 0))).map (Value.bool)) (xs.map (Value.bool))) post))) = some (undef, H2.set p (mid pre (upTo (i + 1) (((List.range xs.length).map (fun i => decide ((k + i) % 3 = 0))).map (Value.bool)) (xs.map (Value.bool))) post)) := fun H2 => by
          rw [stO_one rfl rfl (by rw [mid_len]; omega), set_mid (by omega), hset]
        have hconv : abin .rem (.int .i64 ((k + i : Nat) : Int)) (.int .i64 3) = some (.int .i64 ((((k + i) % 3 : Nat)) : Int)) := by
          rw [abin_rem (by omega)]; congr 2
        have hconv2 : decide ((((k + i) % 3 : Nat) : Int) = 0) = decide ((k + i) % 3 = 0) := decide_eq_decide.2 (by omega)
        simp (maxSteps := 4000000) (disch := omega) only [Zq, evO, vbox, wr, Zeq, if_true, if_false, Nat.reduceEqDiff, Nat.reduceAdd, Nat.reduceLeDiff, Nat.reduceSub, and_self, and_true, true_and, reduceIte, reduceCtorEq, eq_self, implies_true, forall_const, false_implies, imp_self, decide_true, decide_false, t0, t1, t5, g1, hconv, hconv2, hst]
        exact ⟨hin, k1.trans (Chg.set (by simp))⟩
      · simp (maxSteps := 4000000) (disch := omega) only [Zq, evO, vbox, wr, Zeq, if_true, if_false, Nat.reduceEqDiff, Nat.reduceAdd, Nat.reduceLeDiff, Nat.reduceSub, and_self, and_true, true_and, reduceIte, reduceCtorEq, eq_self, implies_true, forall_const, false_implies, imp_self, decide_true, decide_false, t0, t1, t5]
        obtain rfl : i = xs.length := by omega
        have e := upTo_all (xs := ((List.range xs.length).map (fun i => decide ((k + i) % 3 = 0))).map (Value.bool)) (ys := xs.map (Value.bool)) (by simp)
        rw [List.length_map, hlen] at e
        rw [e] at g1
        refine ⟨k1, ?_, rfl⟩
        have := (leaf_own' (Nat.lt_of_lt_of_le hp k1.nxt) g1 : (rSlc rBool).own H1 [.slice (some ⟨p, pre.length, none⟩) ((List.range xs.length).map (fun i => decide ((k + i) % 3 = 0))).length 1] ((List.range xs.length).map (fun i => decide ((k + i) % 3 = 0))) [p])
        rw [hlen] at this
        exact this
/-! ### Marks, held against what is there -/
def xHeldInt : XFun := (.mk 2 (.seq (.reg [(.mk (.some 4) (.mov (.const (.int (.i64) 0))) none)]) (.seq (.seq (.reg [(.mk (.some 5) (.mov (.const (.int (.i64) 0))) none)]) (.block 0 (.loop (.seq (.seq (.reg [(.mk (.some 6) (.mov (.tmp 5)) none), (.mk (.some 7) (.mov (.tmp 0)) none), (.mk (.some 8) (.len (.tmp 7)) none), (.mk (.some 9) (.bin (.lss) (.tmp 6) (.tmp 8)) none)]) (.cond (.tmp 9) (.skip) (.exit 0))) (.seq (.block 1 (.seq (.seq (.reg [(.mk (.some 12) (.mov (.tmp 0)) none), (.mk (.some 13) (.mov (.tmp 5)) none), (.mk (.some 14) (.idx 1 (.tmp 12) (.tmp 13)) none), (.mk (.some 15) (.load1 (.tmp 14)) none), (.mk (.some 16) (.mov (.tmp 1)) none), (.mk (.some 17) (.bin (.neq) (.tmp 15) (.tmp 16)) none)]) (.cond (.tmp 17) (.seq (.reg [(.mk (.some 4) (.mov (.const (.int (.i64) (-1)))) none)]) (.ret)) (.skip))) (.reg [(.mk (.some 18) (.mov (.tmp 1)) none), (.mk (.some 19) (.bin (.add) (.tmp 18) (.const (.int (.i64) 1))) none), (.mk (.some 1) (.mov (.tmp 19)) none)]))) (.reg [(.mk (.some 10) (.mov (.tmp 5)) none), (.mk (.some 11) (.bin (.add) (.tmp 10) (.const (.int (.i64) 1))) none), (.mk (.some 5) (.mov (.tmp 11)) none)])))))) (.seq (.reg [(.mk (.some 20) (.mov (.tmp 1)) none), (.mk (.some 4) (.mov (.tmp 20)) none)]) (.ret)))) [(.tmp 4)])
theorem heldHeldInt_is {P : Program} {g : FuncId} (hx : cfun P g = some xHeldInt) : IsHeld P (rSlc rInt) (rSlc rInt).mar g := by
  intro H cs xs k hrd hk
  have hn : k + 99 * xs.length ≤ 4611686018427387904 := Nat.le_trans (by have : 99 * xs.length ≤ 99 * (rSlc rInt).tot xs := Nat.mul_le_mul_left _ (Nat.le_add_right _ _); omega) hk
  have hmar : (rSlc rInt).mar xs k = ((List.range xs.length).map (fun i => ((k + i : Nat) : Int)), k + xs.length) := leaf_mar k xs
  rw [hmar] at hrd ⊢
  obtain ⟨v, rfl, h⟩ := leaf_rd hrd
  have hlen : ((List.range xs.length).map (fun i => ((k + i : Nat) : Int))).length = xs.length := by simp
  rw [hlen] at h
  refine Run.intro hx rfl ?_
  have hval : (rSlc rInt).val [v] = v := rfl
  simp only [hval]
  simp (maxSteps := 4000000) (disch := omega) only [Zq, evO, vbox, wr, Zeq, if_true, if_false, Nat.reduceEqDiff, Nat.reduceAdd, Nat.reduceLeDiff, Nat.reduceSub, and_self, and_true, true_and, reduceIte, reduceCtorEq, eq_self, implies_true, forall_const, false_implies, imp_self, decide_true, decide_false, xHeldInt, h.len_]
  refine G_for xs.length (fun i T H1 => T 0 = v ∧ T 1 = .int .i64 ((k + i : Nat) : Int) ∧ T 5 = .int .i64 (i : Int) ∧ Keep H H1) 0 (Nat.zero_le _) ?_ ?_
  · simp (maxSteps := 4000000) (disch := omega) only [Zq, evO, vbox, wr, Zeq, if_true, if_false, Nat.reduceEqDiff, Nat.reduceAdd, Nat.reduceLeDiff, Nat.reduceSub, and_self, and_true, true_and, reduceIte, reduceCtorEq, eq_self, implies_true, forall_const, false_implies, imp_self, decide_true, decide_false]
    repeat' (first | exact Keep.refl _ | assumption | refine Keep.push' ?_ | refine Keep.set' ?_ ?_ | refine Keep.moved' ?_ ?_ | omega)
  · rintro i T H1 hi ⟨t0, t1, t5, k1⟩
    have h1 := h.keep k1
    by_cases hin : i < xs.length
    · have hld : vld1 H1 (adr v i 1 0) = some (Value.int .i64 (((k + i : Nat) : Int)), H1) := Sl.ld h1 hin (by simp [hin])
      have hconv : True := trivial
      simp (maxSteps := 4000000) (disch := omega) only [Zq, evO, vbox, wr, Zeq, if_true, if_false, Nat.reduceEqDiff, Nat.reduceAdd, Nat.reduceLeDiff, Nat.reduceSub, and_self, and_true, true_and, reduceIte, reduceCtorEq, eq_self, implies_true, forall_const, false_implies, imp_self, decide_true, decide_false, t0, t1, t5, h1.len_, Sl.idx h1 hin, hld, hconv]
      exact ⟨hin, k1⟩
    · simp (maxSteps := 4000000) (disch := omega) only [Zq, evO, vbox, wr, Zeq, if_true, if_false, Nat.reduceEqDiff, Nat.reduceAdd, Nat.reduceLeDiff, Nat.reduceSub, and_self, and_true, true_and, reduceIte, reduceCtorEq, eq_self, implies_true, forall_const, false_implies, imp_self, decide_true, decide_false, t0, t1, t5, h1.len_]
      obtain rfl : i = xs.length := by omega
      exact ⟨k1, rfl⟩
def xHeldByte : XFun := (.mk 2 (.seq (.reg [(.mk (.some 4) (.mov (.const (.int (.i64) 0))) none)]) (.seq (.seq (.reg [(.mk (.some 5) (.mov (.const (.int (.i64) 0))) none)]) (.block 0 (.loop (.seq (.seq (.reg [(.mk (.some 6) (.mov (.tmp 5)) none), (.mk (.some 7) (.mov (.tmp 0)) none), (.mk (.some 8) (.len (.tmp 7)) none), (.mk (.some 9) (.bin (.lss) (.tmp 6) (.tmp 8)) none)]) (.cond (.tmp 9) (.skip) (.exit 0))) (.seq (.block 1 (.seq (.seq (.reg [(.mk (.some 12) (.mov (.tmp 0)) none), (.mk (.some 13) (.mov (.tmp 5)) none), (.mk (.some 14) (.idx 1 (.tmp 12) (.tmp 13)) none), (.mk (.some 15) (.load1 (.tmp 14)) none), (.mk (.some 16) (.mov (.tmp 1)) none), (.mk (.some 17) (.toInt (.u8) (.tmp 16)) none), (.mk (.some 18) (.bin (.neq) (.tmp 15) (.tmp 17)) none)]) (.cond (.tmp 18) (.seq (.reg [(.mk (.some 4) (.mov (.const (.int (.i64) (-1)))) none)]) (.ret)) (.skip))) (.reg [(.mk (.some 19) (.mov (.tmp 1)) none), (.mk (.some 20) (.bin (.add) (.tmp 19) (.const (.int (.i64) 1))) none), (.mk (.some 1) (.mov (.tmp 20)) none)]))) (.reg [(.mk (.some 10) (.mov (.tmp 5)) none), (.mk (.some 11) (.bin (.add) (.tmp 10) (.const (.int (.i64) 1))) none), (.mk (.some 5) (.mov (.tmp 11)) none)])))))) (.seq (.reg [(.mk (.some 21) (.mov (.tmp 1)) none), (.mk (.some 4) (.mov (.tmp 21)) none)]) (.ret)))) [(.tmp 4)])
theorem heldHeldByte_is {P : Program} {g : FuncId} (hx : cfun P g = some xHeldByte) : IsHeld P (rSlc rByte) (rSlc rByte).mar g := by
  intro H cs xs k hrd hk
  have hn : k + 99 * xs.length ≤ 4611686018427387904 := Nat.le_trans (by have : 99 * xs.length ≤ 99 * (rSlc rByte).tot xs := Nat.mul_le_mul_left _ (Nat.le_add_right _ _); omega) hk
  have hmar : (rSlc rByte).mar xs k = ((List.range xs.length).map (fun i => (((k + i) % 256 : Nat) : Int)), k + xs.length) := leaf_mar k xs
  rw [hmar] at hrd ⊢
  obtain ⟨v, rfl, h⟩ := leaf_rd hrd
  have hlen : ((List.range xs.length).map (fun i => (((k + i) % 256 : Nat) : Int))).length = xs.length := by simp
  rw [hlen] at h
  refine Run.intro hx rfl ?_
  have hval : (rSlc rByte).val [v] = v := rfl
  simp only [hval]
  simp (maxSteps := 4000000) (disch := omega) only [Zq, evO, vbox, wr, Zeq, if_true, if_false, Nat.reduceEqDiff, Nat.reduceAdd, Nat.reduceLeDiff, Nat.reduceSub, and_self, and_true, true_and, reduceIte, reduceCtorEq, eq_self, implies_true, forall_const, false_implies, imp_self, decide_true, decide_false, xHeldByte, h.len_]
  refine G_for xs.length (fun i T H1 => T 0 = v ∧ T 1 = .int .i64 ((k + i : Nat) : Int) ∧ T 5 = .int .i64 (i : Int) ∧ Keep H H1) 0 (Nat.zero_le _) ?_ ?_
  · simp (maxSteps := 4000000) (disch := omega) only [Zq, evO, vbox, wr, Zeq, if_true, if_false, Nat.reduceEqDiff, Nat.reduceAdd, Nat.reduceLeDiff, Nat.reduceSub, and_self, and_true, true_and, reduceIte, reduceCtorEq, eq_self, implies_true, forall_const, false_implies, imp_self, decide_true, decide_false]
    repeat' (first | exact Keep.refl _ | assumption | refine Keep.push' ?_ | refine Keep.set' ?_ ?_ | refine Keep.moved' ?_ ?_ | omega)
  · rintro i T H1 hi ⟨t0, t1, t5, k1⟩
    have h1 := h.keep k1
    by_cases hin : i < xs.length
    · have hld : vld1 H1 (adr v i 1 0) = some (Value.int .u8 ((((k + i) % 256 : Nat) : Int)), H1) := Sl.ld h1 hin (by simp [hin])
      have hconv : IntKind.u8.wrap ((k + i : Nat) : Int) = (((k + i) % 256 : Nat) : Int) := wrap8 _
      simp (maxSteps := 4000000) (disch := omega) only [Zq, evO, vbox, wr, Zeq, if_true, if_false, Nat.reduceEqDiff, Nat.reduceAdd, Nat.reduceLeDiff, Nat.reduceSub, and_self, and_true, true_and, reduceIte, reduceCtorEq, eq_self, implies_true, forall_const, false_implies, imp_self, decide_true, decide_false, t0, t1, t5, h1.len_, Sl.idx h1 hin, hld, hconv]
      exact ⟨hin, k1⟩
    · simp (maxSteps := 4000000) (disch := omega) only [Zq, evO, vbox, wr, Zeq, if_true, if_false, Nat.reduceEqDiff, Nat.reduceAdd, Nat.reduceLeDiff, Nat.reduceSub, and_self, and_true, true_and, reduceIte, reduceCtorEq, eq_self, implies_true, forall_const, false_implies, imp_self, decide_true, decide_false, t0, t1, t5, h1.len_]
      obtain rfl : i = xs.length := by omega
      exact ⟨k1, rfl⟩
/-! ### How many there are -/
def xSzPlain : XFun := (.mk 2 (.seq (.reg [(.mk (.some 4) (.mov (.const (.int (.i64) 0))) none)]) (.seq (.reg [(.mk (.some 5) (.mov (.tmp 1)) none), (.mk (.some 6) (.mov (.tmp 0)) none), (.mk (.some 7) (.len (.tmp 6)) none), (.mk (.some 8) (.bin (.sub) (.tmp 5) (.tmp 7)) none), (.mk (.some 1) (.mov (.tmp 8)) none)]) (.seq (.seq (.reg [(.mk (.some 9) (.mov (.tmp 1)) none), (.mk (.some 10) (.bin (.lss) (.tmp 9) (.const (.int (.i64) 0))) none)]) (.cond (.tmp 10) (.seq (.reg [(.mk (.some 4) (.mov (.const (.int (.i64) (-1)))) none)]) (.ret)) (.skip))) (.seq (.reg [(.mk (.some 11) (.mov (.tmp 1)) none), (.mk (.some 4) (.mov (.tmp 11)) none)]) (.ret))))) [(.tmp 4)])
theorem leaf_tot {α : Type} {f : α → Value} {m : Nat → α} {hf : ∀ a, oneCell (f a) = true} (xs : List α) : (rSlc (leafRep f m hf)).tot xs = xs.length := by
  have : ∀ xs : List α, (xs.map (leafRep f m hf).tot).sum = 0 := by
    intro xs
    induction xs with
    | nil => rfl
    | cons x xs ih => rw [List.map_cons, List.sum_cons, ih]; rfl
  show xs.length + _ = _
  rw [this]; rfl
theorem szPlain_is {P : Program} {g : FuncId} (hx : cfun P g = some xSzPlain) {α : Type} {f : α → Value} {m : Nat → α} {hf : ∀ a, oneCell (f a) = true} : IsSz P (rSlc (leafRep f m hf)) g := by
  intro H cs xs q hrd hfit hq
  obtain ⟨v, rfl, h⟩ := leaf_rd hrd
  have hn : xs.length ≤ 9223372036854775807 := hfit.1
  rw [leaf_tot]
  refine Run.intro hx rfl ?_
  have hval : ∀ v, (rSlc (leafRep f m hf)).val [v] = v := fun _ => rfl
  simp only [hval]
  have hw : IntKind.i64.wrap ((q : Int) - (xs.length : Int)) = (q : Int) - (xs.length : Int) := wrap64 (by omega) (by omega)
  by_cases hle : xs.length ≤ q
  · simp (maxSteps := 4000000) (disch := omega) only [Zq, evO, vbox, wr, Zeq, if_true, if_false, Nat.reduceEqDiff, Nat.reduceAdd, Nat.reduceLeDiff, Nat.reduceSub, and_self, and_true, true_and, reduceIte, reduceCtorEq, eq_self, implies_true, forall_const, false_implies, imp_self, decide_true, decide_false, xSzPlain, h.len_, hw]
    exact ⟨Keep.refl _, .inr ⟨q - xs.length, by congr 1; omega, by omega⟩⟩
  · simp (maxSteps := 4000000) (disch := omega) only [Zq, evO, vbox, wr, Zeq, if_true, if_false, Nat.reduceEqDiff, Nat.reduceAdd, Nat.reduceLeDiff, Nat.reduceSub, and_self, and_true, true_and, reduceIte, reduceCtorEq, eq_self, implies_true, forall_const, false_implies, imp_self, decide_true, decide_false, xSzPlain, h.len_, hw]
    exact ⟨Keep.refl _, by simp⟩
end Go.Proofs.Ytkadelndmaegdaa.AX
