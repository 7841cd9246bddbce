/- Slices of flat structs: how they lie in cells, and what marks do to them. No condition beyond each law's own; nothing of the program. -/
import Derived.Test.YtkadelndmaegdaaAXzaa
namespace Go.Proofs.Ytkadelndmaegdaa.AX
open Go
set_option maxRecDepth 10000
set_option linter.unusedSimpArgs false
set_option linter.unusedVariables false
theorem vbinB_ne {H : Heap} {b : Bool} : vbinB H true (.bool b) (.bool b) = some (.bool false, H) := by simp [vbinB]
theorem slc_val {α : Type} {r : Rep α} {v : Value} : (rSlc r).val [v] = v := nofl rfl
theorem slc_one {α : Type} {r : Rep α} {H : Heap} {cs : List Value} {xs : List α} (h : (rSlc r).rd H cs xs) : ∃ v, cs = [v] := by
  obtain ⟨v, _, rfl, _⟩ := h
  exact ⟨v, rfl⟩
theorem slc_len {α : Type} {r : Rep α} {H H1 : Heap} {v : Value} {xs : List α} (h : (rSlc r).rd H [v] xs) : vlen H1 v = some (.int .i64 xs.length, H1) := by
  obtain ⟨w, rows, e, h1, _⟩ := h
  obtain rfl : v = w := by simpa using e
  exact h1.len_
/-- A struct of plain fields. -/
def flatRep {α : Type} (f : α → List Value) (n : Nat) (hl : ∀ a, (f a).length = n) (m : α → Nat → α × Nat) : Rep α where
  sz := n
  rd := fun _ cs a => cs = f a
  own := fun _ cs a F => cs = f a ∧ F = []
  tot := fun _ => 0
  fit := fun _ => True
  mar := m
  val := fun cs => .agg cs.toArray
  valc := fun _ => ⟨by simp [vcells], rfl⟩
  len := fun h => by rw [h]; exact hl _
  rdk := fun h _ => h
  ownrd := fun h => h.1
  ownlt := fun h i hi => by rw [h.2] at hi; cases hi
  ownk := fun h _ _ => h
def fcells {α : Type} (f : α → List Value) (xs : List α) : List Value := (xs.map f).flatten
section
variable {α : Type} {f : α → List Value} {n : Nat} {hl : ∀ a, (f a).length = n} {m : α → Nat → α × Nat} {H : Heap}
theorem fcells_cons {x : α} {xs : List α} : fcells f (x :: xs) = f x ++ fcells f xs := rfl
theorem fcells_app {xs ys : List α} : fcells f (xs ++ ys) = fcells f xs ++ fcells f ys := by simp [fcells]
theorem fcells_len (hl : ∀ a, (f a).length = n) : ∀ (xs : List α), (fcells f xs).length = xs.length * n
  | [] => by simp [fcells]
  | x :: xs => by rw [fcells_cons, List.length_append, hl, fcells_len hl xs, List.length_cons, Nat.add_mul]; omega
theorem flat_rows : ∀ {rows : List (List Value)} {xs : List α}, rdRows (flatRep f n hl m) H rows xs → rows = xs.map f
  | [], [], _ => rfl
  | c :: cs, x :: xs, .cons h h' => by
    have e : c = f x := h
    rw [e, flat_rows h']
    rfl
theorem flat_rd {cs : List Value} {xs : List α} (h : (rSlc (flatRep f n hl m)).rd H cs xs) : ∃ v, cs = [v] ∧ Sl H v n xs.length (fcells f xs) := by
  obtain ⟨v, rows, h1, h2, h3⟩ := h
  rw [flat_rows h3] at h2
  exact ⟨v, h1, h2⟩
theorem flat_rd' {v : Value} {xs : List α} (h : Sl H v n xs.length (fcells f xs)) : (rSlc (flatRep f n hl m)).rd H [v] xs := by
  refine ⟨v, xs.map f, rfl, h, ?_⟩
  have : ∀ xs : List α, All2 (fun c x => (flatRep f n hl m).rd H c x) (xs.map f) xs := by
    intro xs
    induction xs with
    | nil => exact .nil
    | cons x xs ih => exact .cons rfl ih
  exact this xs
theorem flat_ownRows : ∀ {rows : List (List Value)} {xs : List α} {Fs : List (List Nat)}, ownRows (flatRep f n hl m) H rows xs Fs → Fs.flatten = []
  | [], [], [], _ => rfl
  | [], [], _ :: _, h => h.elim
  | [], _ :: _, _, h => h.elim
  | _ :: _, [], _, h => h.elim
  | _ :: _, _ :: _, [], h => h.elim
  | c :: cs, x :: xs, F :: Fs, h => by
    have e : F = [] := h.1.2
    rw [List.flatten_cons, e, flat_ownRows h.2]
    rfl
theorem flat_ownRows' : ∀ (xs : List α), ∃ Fs, ownRows (flatRep f n hl m) H (xs.map f) xs Fs ∧ Fs.flatten = []
  | [] => ⟨[], trivial, rfl⟩
  | x :: xs => by
    obtain ⟨Fs, h1, h2⟩ := flat_ownRows' xs
    exact ⟨[] :: Fs, ⟨⟨rfl, rfl⟩, h1⟩, by rw [List.flatten_cons, h2]; rfl⟩
theorem flat_own {cs : List Value} {xs : List α} {F : List Nat} (h : (rSlc (flatRep f n hl m)).own H cs xs F) : (cs = [.slice none 0 0] ∧ xs = [] ∧ F = []) ∨
    ∃ p pre post, cs = [.slice (some ⟨p, pre.length, none⟩) xs.length n] ∧ p < H.nxt ∧ H.get p = some (.own (mid pre (fcells f xs) post)) ∧ F = [p] := by
  rcases h with h | ⟨p, o, pre, rows, post, Fs, h1, h2, h3, h4, h5, h6⟩
  · exact .inl h
  · have hr := flat_rows h5.rd
    subst hr
    subst h4
    exact .inr ⟨p, pre, post, h1, h2, h3, by rw [h6, flat_ownRows h5]⟩
theorem flat_own' {xs : List α} {p : Nat} {pre post : List Value} (hp : p < H.nxt) (hg : H.get p = some (.own (mid pre (fcells f xs) post))) : (rSlc (flatRep f n hl m)).own H [.slice (some ⟨p, pre.length, none⟩) xs.length n] xs [p] := by
  obtain ⟨Fs, h1, h2⟩ := flat_ownRows' (f := f) (n := n) (m := m) (hl := hl) (H := H) xs
  exact .inr ⟨p, pre.length, pre, _, post, Fs, rfl, hp, hg, rfl, h1, by rw [h2]⟩
theorem flat_own0 {xs : List α} {p : Nat} (hp : p < H.nxt) (hg : H.get p = some (.own (fcells f xs))) : (rSlc (flatRep f n hl m)).own H [.slice (some ⟨p, 0, none⟩) xs.length n] xs [p] :=
  flat_own' (pre := []) (post := []) hp (by simpa [mid] using hg)
theorem flat_tot (xs : List α) : (rSlc (flatRep f n hl m)).tot xs = xs.length := by
  have : ∀ xs : List α, (xs.map (flatRep f n hl m).tot).sum = 0 := by
    intro xs
    induction xs with
    | nil => rfl
    | cons x xs ih => rw [List.map_cons, List.sum_cons, ih]; rfl
  show xs.length + _ = _
  rw [this]; rfl
theorem flat_get (hl : ∀ a, (f a).length = n) : ∀ {xs : List α} {i o : Nat} (hi : i < xs.length), o < n → (fcells f xs)[i * n + o]? = (f xs[i])[o]?
  | [], i, o, hi, _ => absurd hi (by simp)
  | x :: xs, 0, o, _, ho => by rw [fcells_cons, Nat.zero_mul, Nat.zero_add, List.getElem?_append_left (by rw [hl]; exact ho)]; rfl
  | x :: xs, i + 1, o, hi, ho => by
    rw [fcells_cons, List.getElem?_append_right (by rw [hl, Nat.add_mul]; omega), hl, show (i + 1) * n + o - n = i * n + o by rw [Nat.add_mul, Nat.one_mul]; omega]
    exact flat_get hl (by simpa using hi) ho
/-- One element, taken out. -/
theorem flat_elem (hl : ∀ a, (f a).length = n) {xs : List α} {i : Nat} (hi : i < xs.length) : ((fcells f xs).drop (i * n)).take n = f xs[i] := by
  refine List.ext_getElem? fun j => ?_
  rw [List.getElem?_take]
  split
  · rw [List.getElem?_drop, flat_get hl hi (by assumption)]
  · rw [List.getElem?_eq_none (by rw [hl]; omega)]
theorem Sl.elem {v : Value} {xs : List α} {i : Nat} (hl : ∀ a, (f a).length = n) (hn : 0 < n) (h : Sl H v n xs.length (fcells f xs)) (hi : i < xs.length) : vldN H n (adr v i n 0) = some (.agg (f xs[i]).toArray, H) := by
  have := Sl.ldN (o := 0) (m := n) h hi hn (by omega)
  rwa [Nat.add_zero, flat_elem hl hi] at this
/-- A mark that asks nothing of what it covers. -/
theorem flat_mar {mk : Nat → α} {c : Nat} (hm : ∀ x k, m x k = (mk k, k + c)) (k : Nat) : ∀ (xs : List α), (rSlc (flatRep f n hl m)).mar xs k = ((List.range xs.length).map (fun i => mk (k + c * i)), k + c * xs.length) := by
  intro xs
  show mkL m xs k = _
  induction xs generalizing k with
  | nil => simp [mkL]
  | cons x xs ih =>
    simp only [mkL, hm, ih (k + c)]
    rw [List.length_cons, List.range_succ_eq_map, List.map_cons, List.map_map]
    refine Prod.ext ?_ (by simp [Nat.mul_add]; omega)
    simp only [Nat.mul_zero, Nat.add_zero, List.cons.injEq, true_and]
    exact List.map_congr_left (fun i _ => by simp only [Function.comp, Nat.succ_eq_add_one, Nat.mul_add]; congr 1; omega)
theorem stO_mid {H1 : Heap} {p q o : Nat} {x : Value} {P B Q : List Value} (hx : oneCell x = true) (hP : P.length = q) (ho : o < B.length) : stO H1 1 p (q + o) x (some (.own (mid P B Q))) = some (undef, H1.set p (mid P (B.set o x) Q)) := by
  obtain ⟨e1, e2⟩ := one_vcells hx
  rw [stO_one e2 e1 (by rw [mid_len]; omega), ← hP, set_mid ho]
theorem mark_split {pre post D : List Value} {xs : List α} {i : Nat} (hi : i < xs.length) : mid (pre ++ D) (fcells f (xs.drop i)) post = mid (pre ++ D) (f xs[i]) (fcells f (xs.drop (i + 1)) ++ post) := by
  rw [List.drop_eq_getElem_cons hi, fcells_cons]
  simp [mid]
theorem mark_join {pre post C : List Value} {D : List α} {y : α} : mid (pre ++ fcells f D) (f y) (C ++ post) = mid (pre ++ fcells f (D ++ [y])) C post := by
  rw [fcells_app]
  simp [mid, fcells]
end
theorem szFlat_is {P : Program} {g : FuncId} (hx : cfun P g = some xSzPlain) {α : Type} {r : Rep α} (hr : ∀ x, r.tot x = 0) : IsSz P (rSlc r) g := by
  intro H cs xs q hrd hfit hq
  obtain ⟨v, rows, rfl, h, _⟩ := hrd
  have hn : xs.length ≤ 9223372036854775807 := hfit.1
  have htot : (rSlc r).tot xs = xs.length := by
    have : ∀ xs : List α, (xs.map r.tot).sum = 0 := by
      intro xs
      induction xs with
      | nil => rfl
      | cons x xs ih => rw [List.map_cons, List.sum_cons, ih, hr]
    show xs.length + _ = _
    rw [this]; rfl
  rw [htot]
  refine Run.intro hx rfl ?_
  have hval : ∀ v, (rSlc r).val [v] = v := fun _ => rfl
  simp only [hval]
  have hw : IntKind.i64.wrap ((q : Int) - (xs.length : Int)) = (q : Int) - (xs.length : Int) := wrap64 (by omega) (by omega)
  by_cases hle : xs.length ≤ q
  · simp (maxSteps := 4000000) (disch := omega) only [Zq, evO, vbox, wr, Zeq, if_true, if_false, Nat.reduceEqDiff, Nat.reduceAdd, Nat.reduceLeDiff, Nat.reduceSub, and_self, and_true, true_and, reduceIte, reduceCtorEq, eq_self, implies_true, forall_const, false_implies, imp_self, decide_true, decide_false, xSzPlain, h.len_, hw]
    exact ⟨Keep.refl _, .inr ⟨q - xs.length, by congr 1; omega, by omega⟩⟩
  · simp (maxSteps := 4000000) (disch := omega) only [Zq, evO, vbox, wr, Zeq, if_true, if_false, Nat.reduceEqDiff, Nat.reduceAdd, Nat.reduceLeDiff, Nat.reduceSub, and_self, and_true, true_and, reduceIte, reduceCtorEq, eq_self, implies_true, forall_const, false_implies, imp_self, decide_true, decide_false, xSzPlain, h.len_, hw]
    exact ⟨Keep.refl _, by simp⟩
theorem good_slcs {P : Program} {H : Heap} {n : Nat} {t e : TypeId} {xs : List Value} {α : Type} {r : Rep α} {c : Nat} (hu : P.underlying t = some (.slice e)) (hc : P.cellsOf e = c) (hr : ∀ m row, row.length = c → Good P H m e row → ∃ x, r.rd H row x ∧ r.fit x) (hz : r.sz = c) (h : Good P H n t xs) : ∃ l, (rSlc r).rd H xs l ∧ (rSlc r).fit l := by
  obtain ⟨v, rows, m, h1, h2, h3, h4⟩ := good_slc hu hc h
  have : ∀ rows : List (List Value), (∀ row ∈ rows, row.length = c ∧ Good P H m e row) → ∃ l : List α, rdRows r H rows l ∧ l.length = rows.length ∧ ∀ x ∈ l, r.fit x := by
    intro rows
    induction rows with
    | nil => intro _; exact ⟨[], .nil, rfl, fun x hx => by cases hx⟩
    | cons row rows ih =>
      intro h
      obtain ⟨l, h5, h6, h7⟩ := ih (fun r hr => h r (by simp [hr]))
      obtain ⟨g1, g2⟩ := h row (by simp)
      obtain ⟨x, h8, h9⟩ := hr m row g1 g2
      refine ⟨x :: l, .cons h8 h5, by simp [h6], fun y hy => ?_⟩
      rcases List.mem_cons.1 hy with rfl | hy
      · exact h9
      · exact h7 y hy
  obtain ⟨l, h5, h6, h7⟩ := this rows h4
  refine ⟨l, ⟨v, rows, h1, by rw [hz, h6]; exact h2, h5⟩, ?_, h7⟩
  rw [h6]
  have : maxLen = 9223372036854775807 := by decide
  omega
theorem good_rInts {P : Program} {H : Heap} {n : Nat} {t e : TypeId} {xs : List Value} (hu : P.underlying t = some (.slice e)) (he : P.underlying e = some (.int .i64)) (hc : P.cellsOf e = 1) (h : Good P H n t xs) : ∃ l, (rSlc rInt).rd H xs l ∧ (rSlc rInt).fit l :=
  good_slcs hu hc (fun m row _ hg => by
    obtain ⟨z, rfl, _⟩ := good_int he hg
    exact ⟨z, rfl, trivial⟩) rfl h
end Go.Proofs.Ytkadelndmaegdaa.AX
