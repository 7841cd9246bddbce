/- Marks: a slice whose elements are marked or held one by one, by whatever code. No condition beyond each law's own; nothing of the program. -/
import Derived.Test.YtkadelndmaegdaaAXzc
namespace Go.Proofs.Ytkadelndmaegdaa.AX
open Go
set_option maxRecDepth 10000
set_option linter.unusedSimpArgs false
set_option linter.unusedVariables false
theorem mkL_snoc {α : Type} {m : α → Nat → α × Nat} {z : α} : ∀ {ys : List α} {k : Nat}, mkL m (ys ++ [z]) k = ((mkL m ys k).1 ++ [(m z (mkL m ys k).2).1], (m z (mkL m ys k).2).2)
  | [], k => rfl
  | y :: ys, k => by simp only [List.cons_append, mkL, mkL_snoc (ys := ys)]
theorem mkL_len {α : Type} {m : α → Nat → α × Nat} : ∀ {ys : List α} {k : Nat}, (mkL m ys k).1.length = ys.length
  | [], k => rfl
  | y :: ys, k => by simp only [mkL, List.length_cons, mkL_len (ys := ys)]
theorem mkL_get {α : Type} {m : α → Nat → α × Nat} : ∀ {xs : List α} {k i : Nat} (hi : i < xs.length), (mkL m xs k).1[i]? = some (m xs[i] (mkL m (xs.take i) k).2).1
  | [], k, i, hi => by simp at hi
  | x :: xs, k, 0, hi => rfl
  | x :: xs, k, i + 1, hi => by
    simp only [mkL, List.getElem?_cons_succ, List.take_succ_cons, List.getElem_cons_succ]
    exact mkL_get (by simpa using hi)
theorem mkL_take {α : Type} {m : α → Nat → α × Nat} {xs : List α} {k i : Nat} (hi : i < xs.length) : (mkL m (xs.take (i + 1)) k).2 = (m xs[i] (mkL m (xs.take i) k).2).2 := by
  rw [List.take_add_one, List.getElem?_eq_getElem hi]
  simp only [Option.toList_some, mkL_snoc]
/-- A mark goes up by so much at most. -/
def MarB {α : Type} (r : Rep α) : Prop := ∀ (x : α) (k : Nat), (r.mar x k).2 ≤ k + 99 * (r.tot x + 1)
theorem mkL_le {α : Type} {r : Rep α} (h : MarB r) : ∀ (xs : List α) (k : Nat), (mkL r.mar xs k).2 ≤ k + 99 * (rSlc r).tot xs
  | [], k => Nat.le_add_right _ _
  | x :: xs, k => by
    have h1 := h x k
    have h2 := mkL_le h xs (r.mar x k).2
    have e : (rSlc r).tot (x :: xs) = (r.tot x + 1) + (rSlc r).tot xs := by simp only [rSlc, List.length_cons, List.map_cons, List.sum_cons]; omega
    rw [e]
    show (mkL r.mar xs (r.mar x k).2).2 ≤ _
    omega
theorem MarB.slc {α : Type} {r : Rep α} (h : MarB r) : MarB (rSlc r) := fun xs k => by
  have := mkL_le h xs k
  show (mkL r.mar xs k).2 ≤ _
  omega
/-- The same, with what is over said. -/
def MarC {α : Type} (r : Rep α) (c : Nat) : Prop := ∀ (x : α) (k : Nat), (r.mar x k).2 ≤ k + 99 * r.tot x + c
theorem MarB.of {α : Type} {r : Rep α} {c : Nat} (h : MarC r c) (hc : c ≤ 99) : MarB r := fun x k => by have := h x k; omega
theorem MarC.slc {α : Type} {r : Rep α} (h : MarB r) : MarC (rSlc r) 0 := fun xs k => mkL_le h xs k
theorem MarC.leaf {α : Type} {f : α → Value} {m : Nat → α} {hf : ∀ a, oneCell (f a) = true} : MarC (leafRep f m hf) 1 := fun x k => by show k + 1 ≤ _; omega
theorem MarC.pair {α β : Type} {r : Rep α} {s : Rep β} {c d : Nat} (h : MarC r c) (h' : MarC s d) : MarC (rPair r s) (c + d) := fun x k => by
  have h1 := h x.1 k
  have h2 := h' x.2 (r.mar x.1 k).2
  show (s.mar x.2 (r.mar x.1 k).2).2 ≤ k + 99 * (r.tot x.1 + s.tot x.2) + (c + d)
  omega
theorem mar_le {α : Type} {r : Rep α} (h : MarB r) (xs : List α) (k : Nat) : ((rSlc r).mar xs k).2 ≤ k + 99 * (rSlc r).tot xs := mkL_le h xs k
theorem slc_cell {α : Type} {r : Rep α} {H : Heap} {v : Value} {xs : List α} (h : (rSlc r).rd H [v] xs) : vcells v = [v] ∧ noTup v = true := (rSlc r).valc h
theorem slc_mar {α : Type} {r : Rep α} : (rSlc r).mar = mkL r.mar := rfl
theorem MarB.int : MarB rInt := fun x k => by show k + 1 ≤ _; omega
theorem MarB.byte : MarB rByte := fun x k => by show k + 1 ≤ _; omega
theorem MarB.bool : MarB rBool := fun x k => by show k + 1 ≤ _; omega
theorem tot_le {α : Type} {r : Rep α} {xs : List α} {i : Nat} (hi : i < xs.length) : (rSlc r).tot (xs.take i) + (r.tot xs[i] + 1) ≤ (rSlc r).tot xs := by
  have e : xs.take i ++ xs[i] :: xs.drop (i + 1) = xs := by rw [← List.drop_eq_getElem_cons hi, List.take_append_drop]
  have e2 : (rSlc r).tot xs = (rSlc r).tot (xs.take i ++ xs[i] :: xs.drop (i + 1)) := by rw [e]
  rw [e2]
  simp only [rSlc, List.length_append, List.length_cons, List.map_append, List.sum_append, List.map_cons, List.sum_cons]
  omega
/-- The loop over a slice's places, its body left open. -/
def xSlcLoop (A : Nat) (body : X) : XFun := (.mk 2 (.seq (.reg [(.mk (.some 4) (.mov (.const (.int (.i64) 0))) none)]) (.seq (.seq (.reg [(.mk (.some 5) (.mov (.const (.int (.i64) 0))) none)]) (.block 0 (.loop (.seq (.seq (.reg [(.mk (.some 6) (.mov (.tmp 5)) none), (.mk (.some 7) (.mov (.tmp 0)) none), (.mk (.some 8) (.len (.tmp 7)) none), (.mk (.some 9) (.bin (.lss) (.tmp 6) (.tmp 8)) none)]) (.cond (.tmp 9) (.skip) (.exit 0))) (.seq (.block 1 body) (.reg [(.mk (.some 10) (.mov (.tmp 5)) none), (.mk (.some 11) (.bin (.add) (.tmp 10) (.const (.int (.i64) 1))) none), (.mk (.some 5) (.mov (.tmp 11)) none)])))))) (.seq (.reg [(.mk (.some A) (.mov (.tmp 1)) none), (.mk (.some 4) (.mov (.tmp A)) none)]) (.ret)))) [(.tmp 4)])
def BMark {α : Type} (P : Program) (r : Rep α) (body : X) : Prop := ∀ (p i n o k : Nat) (P0 Q0 row : List Value) (x : α) (F : List Nat) (ks : List Fr) (Q : XE → Tm → Heap → Prop) (T : Tm) (H : Heap),
  T 0 = .slice (some ⟨p, o, none⟩) n r.sz → T 1 = .int .i64 (k : Int) → T 5 = .int .i64 (i : Int) → i < n → P0.length = o + i * r.sz → p < H.nxt → H.get p = some (.own (mid P0 row Q0)) → r.own H row x F → F.Nodup → p ∉ F → k + 99 * (r.tot x + 1) ≤ 4611686018427387904 →
  (∀ T' H' row', T' 0 = T 0 → T' 5 = T 5 → T' 1 = .int .i64 ((r.mar x k).2 : Int) → Chg (p :: F) H H' → H'.get p = some (.own (mid P0 row' Q0)) → r.own H' row' (r.mar x k).1 F → GX (CR P) .nrm ks Q T' H') →
  G (CR P) body ks Q T H
theorem ownRows_cons {α : Type} {r : Rep α} {H : Heap} {rows : List (List Value)} {z : α} {zs : List α} {Fs : List (List Nat)} (h : ownRows r H rows (z :: zs) Fs) : ∃ c R F Fr, rows = c :: R ∧ Fs = F :: Fr ∧ r.own H c z F ∧ ownRows r H R zs Fr := by
  match rows, Fs, h with
  | c :: R, F :: Fr, h => exact ⟨c, R, F, Fr, rfl, rfl, h.1, h.2⟩
theorem markSlc_is {P : Program} {g : FuncId} {A : Nat} {body : X} (hx : cfun P g = some (xSlcLoop A body)) {α : Type} {r : Rep α} (hm : MarB r) (hb : BMark P r body) : IsMark P (rSlc r) (rSlc r).mar g := by
  intro H cs xs F k hown hnd hk
  have hn : xs.length ≤ (rSlc r).tot xs := Nat.le_add_right _ _
  refine Run.intro hx rfl ?_
  rcases hown with ⟨rfl, rfl, rfl⟩ | ⟨p, o, pre, rows, post, Fs, rfl, hp, hg, ho, hr, rfl⟩
  · have hval : (rSlc r).val [.slice none 0 0] = .slice none 0 0 := rfl
    simp only [hval]
    simp (maxSteps := 4000000) (disch := omega) only [Zq, evO, vbox, wr, Zeq, if_true, if_false, Nat.reduceEqDiff, Nat.reduceAdd, Nat.reduceLeDiff, Nat.reduceSub, and_self, and_true, true_and, reduceIte, reduceCtorEq, eq_self, implies_true, forall_const, false_implies, imp_self, decide_true, decide_false, xSlcLoop]
    refine G_for 0 (fun i T H1 => T 0 = .slice none 0 0 ∧ T 1 = .int .i64 (k : Int) ∧ T 5 = .int .i64 (0 : Int) ∧ Chg [] H H1) 0 (Nat.zero_le _) ?_ ?_
    · simp (maxSteps := 4000000) (disch := omega) only [Zq, evO, vbox, wr, Zeq, if_true, if_false, Nat.reduceEqDiff, Nat.reduceAdd, Nat.reduceLeDiff, Nat.reduceSub, and_self, and_true, true_and, reduceIte, reduceCtorEq, eq_self, implies_true, forall_const, false_implies, imp_self, decide_true, decide_false]
      exact Chg.refl _ _
    · rintro i T H1 hi ⟨t0, t1, t5, k1⟩
      obtain rfl : i = 0 := by omega
      simp (maxSteps := 4000000) (disch := omega) only [Zq, evO, vbox, wr, Zeq, if_true, if_false, Nat.reduceEqDiff, Nat.reduceAdd, Nat.reduceLeDiff, Nat.reduceSub, and_self, and_true, true_and, reduceIte, reduceCtorEq, eq_self, implies_true, forall_const, false_implies, imp_self, decide_true, decide_false, t0, t1, t5]
      exact ⟨k1, .inl ⟨rfl, rfl, rfl⟩, rfl⟩
  · have hval : (rSlc r).val [.slice (some ⟨p, o, none⟩) xs.length r.sz] = .slice (some ⟨p, o, none⟩) xs.length r.sz := rfl
    simp only [hval]
    obtain ⟨hpF, hndF⟩ := List.nodup_cons.1 hnd
    simp (maxSteps := 4000000) (disch := omega) only [Zq, evO, vbox, wr, Zeq, if_true, if_false, Nat.reduceEqDiff, Nat.reduceAdd, Nat.reduceLeDiff, Nat.reduceSub, and_self, and_true, true_and, reduceIte, reduceCtorEq, eq_self, implies_true, forall_const, false_implies, imp_self, decide_true, decide_false, xSlcLoop]
    refine G_for xs.length (fun i T H1 => T 0 = .slice (some ⟨p, o, none⟩) xs.length r.sz ∧ T 1 = .int .i64 ((mkL r.mar (xs.take i) k).2 : Int) ∧ T 5 = .int .i64 (i : Int) ∧ Chg (p :: Fs.flatten) H H1 ∧
      ∃ D Fd R Fr, Fs = Fd ++ Fr ∧ ownRows r H1 D (mkL r.mar (xs.take i) k).1 Fd ∧ ownRows r H1 R (xs.drop i) Fr ∧ H1.get p = some (.own (mid pre (D ++ R).flatten post))) 0 (Nat.zero_le _) ?_ ?_
    · simp (maxSteps := 4000000) (disch := omega) only [Zq, evO, vbox, wr, Zeq, if_true, if_false, Nat.reduceEqDiff, Nat.reduceAdd, Nat.reduceLeDiff, Nat.reduceSub, and_self, and_true, true_and, reduceIte, reduceCtorEq, eq_self, implies_true, forall_const, false_implies, imp_self, decide_true, decide_false]
      exact ⟨rfl, Chg.refl _ _, [], [], rows, Fs, rfl, trivial, hr, hg⟩
    · rintro i T H1 hi ⟨t0, t1, t5, c1, D, Fd, R, Fr, rfl, oD, oR, g1⟩
      by_cases hin : i < xs.length
      · simp (maxSteps := 4000000) (disch := omega) only [Zq, evO, vbox, wr, Zeq, if_true, if_false, Nat.reduceEqDiff, Nat.reduceAdd, Nat.reduceLeDiff, Nat.reduceSub, and_self, and_true, true_and, reduceIte, reduceCtorEq, eq_self, implies_true, forall_const, false_implies, imp_self, decide_true, decide_false, t0, t1, t5]
        rw [List.drop_eq_getElem_cons hin] at oR
        obtain ⟨c, R', Fz, Fr', rfl, rfl, oc, oR'⟩ := ownRows_cons oR
        have hlD : D.flatten.length = i * r.sz := by
          rw [flatten_length oD.rd.sz, oD.len.1, mkL_len, List.length_take, Nat.min_eq_left (by omega)]
        have hmid : mid pre (D ++ c :: R').flatten post = mid (pre ++ D.flatten) c (R'.flatten ++ post) := by
          simp only [mid, List.flatten_append, List.flatten_cons, List.append_assoc]
        have hfl : (Fd ++ Fz :: Fr').flatten = Fd.flatten ++ (Fz ++ Fr'.flatten) := by simp
        rw [hfl] at hpF hndF c1
        obtain ⟨nd1, nd2, dj⟩ := List.nodup_append.1 hndF
        obtain ⟨nd3, nd4, dj2⟩ := List.nodup_append.1 nd2
        have hle := mkL_le hm (xs.take i) k
        have htl := tot_le (r := r) hin
        refine hb p i xs.length o (mkL r.mar (xs.take i) k).2 (pre ++ D.flatten) (R'.flatten ++ post) c xs[i] Fz _ _ _ _ (by simp (maxSteps := 4000000) (disch := omega) only [Zq, evO, vbox, wr, Zeq, if_true, if_false, Nat.reduceEqDiff, Nat.reduceAdd, Nat.reduceLeDiff, Nat.reduceSub, and_self, and_true, true_and, reduceIte, reduceCtorEq, eq_self, implies_true, forall_const, false_implies, imp_self, decide_true, decide_false, t0]) (by simp (maxSteps := 4000000) (disch := omega) only [Zq, evO, vbox, wr, Zeq, if_true, if_false, Nat.reduceEqDiff, Nat.reduceAdd, Nat.reduceLeDiff, Nat.reduceSub, and_self, and_true, true_and, reduceIte, reduceCtorEq, eq_self, implies_true, forall_const, false_implies, imp_self, decide_true, decide_false, t1]) (by simp (maxSteps := 4000000) (disch := omega) only [Zq, evO, vbox, wr, Zeq, if_true, if_false, Nat.reduceEqDiff, Nat.reduceAdd, Nat.reduceLeDiff, Nat.reduceSub, and_self, and_true, true_and, reduceIte, reduceCtorEq, eq_self, implies_true, forall_const, false_implies, imp_self, decide_true, decide_false, t5]) hin (by rw [List.length_append, hlD, ho]) (Nat.lt_of_lt_of_le hp c1.nxt) (by rw [g1, hmid]) oc nd3 (fun h => hpF (by simp [h])) (by omega) ?_
        rintro T' H' row' e0 e5 e1 c2 g2 o2
        simp (maxSteps := 4000000) (disch := omega) only [Zq, evO, vbox, wr, Zeq, if_true, if_false, Nat.reduceEqDiff, Nat.reduceAdd, Nat.reduceLeDiff, Nat.reduceSub, and_self, and_true, true_and, reduceIte, reduceCtorEq, eq_self, implies_true, forall_const, false_implies, imp_self, decide_true, decide_false, t0, t5] at e0 e5
        simp (maxSteps := 4000000) (disch := omega) only [Zq, evO, vbox, wr, Zeq, if_true, if_false, Nat.reduceEqDiff, Nat.reduceAdd, Nat.reduceLeDiff, Nat.reduceSub, and_self, and_true, true_and, reduceIte, reduceCtorEq, eq_self, implies_true, forall_const, false_implies, imp_self, decide_true, decide_false, e0, e5, e1]
        have oD' : ownRows r H' D (mkL r.mar (xs.take i) k).1 Fd := oD.keep c2.nxt (fun j hj => c2.get j (oD.lt j hj) (fun h => by
          rcases List.mem_cons.1 h with rfl | h
          · exact hpF (by simp only [List.mem_append]; exact .inl hj)
          · exact dj _ hj _ (by simp only [List.mem_append]; exact .inl h) rfl))
        have oR2 : ownRows r H' R' (xs.drop (i + 1)) Fr' := oR'.keep c2.nxt (fun j hj => c2.get j (oR'.lt j hj) (fun h => by
          rcases List.mem_cons.1 h with rfl | h
          · exact hpF (by simp only [List.mem_append]; exact .inr (.inr hj))
          · exact dj2 _ h _ hj rfl))
        have hsn : mkL r.mar (xs.take (i + 1)) k = ((mkL r.mar (xs.take i) k).1 ++ [(r.mar xs[i] (mkL r.mar (xs.take i) k).2).1], (r.mar xs[i] (mkL r.mar (xs.take i) k).2).2) := by
          rw [List.take_add_one, List.getElem?_eq_getElem hin]
          simp only [Option.toList_some, mkL_snoc]
        refine ⟨by omega, by rw [hsn], ?_, D ++ [row'], Fd ++ [Fz], R', Fr', by simp, ?_, oR2, ?_⟩
        · rw [hfl]
          refine c1.trans (c2.mono fun j hj => ?_)
          rcases List.mem_cons.1 hj with rfl | hj
          · exact List.mem_cons_self ..
          · exact List.mem_cons_of_mem _ (by simp only [List.mem_append]; exact .inr (.inl hj))
        · rw [hsn]
          exact ownRows_snoc oD' o2
        · rw [g2]
          simp only [mid, List.flatten_append, List.flatten_cons, List.flatten_nil, List.append_assoc, List.append_nil, List.nil_append]
      · obtain rfl : i = xs.length := by omega
        simp (maxSteps := 4000000) (disch := omega) only [Zq, evO, vbox, wr, Zeq, if_true, if_false, Nat.reduceEqDiff, Nat.reduceAdd, Nat.reduceLeDiff, Nat.reduceSub, and_self, and_true, true_and, reduceIte, reduceCtorEq, eq_self, implies_true, forall_const, false_implies, imp_self, decide_true, decide_false, t0, t1, t5]
        rw [List.take_length] at oD
        rw [List.drop_length] at oR
        match R, Fr, oR with
        | [], [], _ =>
          rw [List.append_nil] at g1 c1
          rw [List.append_nil]
          refine ⟨c1, .inr ⟨p, o, pre, D, post, Fd, ?_, Nat.lt_of_lt_of_le hp c1.nxt, g1, ho, oD, rfl⟩, ?_⟩
          · rw [slc_mar, mkL_len]
          · rw [List.take_length]; rfl
def BHeld {α : Type} (P : Program) (r : Rep α) (body : X) : Prop := ∀ (v : Value) (i n k : Nat) (cs : List Value) (x : α) (ks : List Fr) (Q : XE → Tm → Heap → Prop) (T : Tm) (H : Heap),
  T 0 = v → T 1 = .int .i64 (k : Int) → T 5 = .int .i64 (i : Int) → i < n → Sl H v r.sz n cs → r.rd H ((cs.drop (i * r.sz)).take r.sz) (r.mar x k).1 → k + 99 * (r.tot x + 1) ≤ 4611686018427387904 →
  (∀ T' H', T' 0 = T 0 → T' 5 = T 5 → T' 1 = .int .i64 ((r.mar x k).2 : Int) → Keep H H' → GX (CR P) .nrm ks Q T' H') →
  G (CR P) body ks Q T H
theorem heldSlc_is {P : Program} {g : FuncId} {A : Nat} {body : X} (hx : cfun P g = some (xSlcLoop A body)) {α : Type} {r : Rep α} (hm : MarB r) (hb : BHeld P r body) : IsHeld P (rSlc r) (rSlc r).mar g := by
  intro H cs xs k hrd hk
  have hn : xs.length ≤ (rSlc r).tot xs := Nat.le_add_right _ _
  obtain ⟨v, rows, rfl, hs, hr⟩ := hrd
  refine Run.intro hx rfl ?_
  have hval : (rSlc r).val [v] = v := rfl
  simp only [hval]
  have hlen : ((rSlc r).mar xs k).1.length = xs.length := mkL_len
  rw [hlen] at hs
  simp (maxSteps := 4000000) (disch := omega) only [Zq, evO, vbox, wr, Zeq, if_true, if_false, Nat.reduceEqDiff, Nat.reduceAdd, Nat.reduceLeDiff, Nat.reduceSub, and_self, and_true, true_and, reduceIte, reduceCtorEq, eq_self, implies_true, forall_const, false_implies, imp_self, decide_true, decide_false, xSlcLoop]
  refine G_for xs.length (fun i T H1 => T 0 = v ∧ T 1 = .int .i64 ((mkL r.mar (xs.take i) k).2 : Int) ∧ T 5 = .int .i64 (i : Int) ∧ Keep H H1) 0 (Nat.zero_le _) ?_ ?_
  · simp (maxSteps := 4000000) (disch := omega) only [Zq, evO, vbox, wr, Zeq, if_true, if_false, Nat.reduceEqDiff, Nat.reduceAdd, Nat.reduceLeDiff, Nat.reduceSub, and_self, and_true, true_and, reduceIte, reduceCtorEq, eq_self, implies_true, forall_const, false_implies, imp_self, decide_true, decide_false]
    exact ⟨rfl, Keep.refl _⟩
  · rintro i T H1 hi ⟨t0, t1, t5, k1⟩
    have h1 := hs.keep k1
    by_cases hin : i < xs.length
    · simp (maxSteps := 4000000) (disch := omega) only [Zq, evO, vbox, wr, Zeq, if_true, if_false, Nat.reduceEqDiff, Nat.reduceAdd, Nat.reduceLeDiff, Nat.reduceSub, and_self, and_true, true_and, reduceIte, reduceCtorEq, eq_self, implies_true, forall_const, false_implies, imp_self, decide_true, decide_false, t0, t1, t5, h1.len_]
      obtain ⟨row, hrow, hrd⟩ := rows_get hr (i := i) (by rw [hlen]; exact hin)
      have hget := mkL_get (m := r.mar) (k := k) hin
      have e : ((rSlc r).mar xs k).1[i]'(by rw [hlen]; exact hin) = (r.mar xs[i] (mkL r.mar (xs.take i) k).2).1 := by
        have := List.getElem?_eq_getElem (l := (mkL r.mar xs k).1) (i := i) (by rw [mkL_len]; exact hin)
        rw [hget] at this
        exact (Option.some.inj this).symm
      rw [e] at hrd
      have hrow' := flat_row hr.sz hrow
      have hle := mkL_le hm (xs.take i) k
      have htl := tot_le (r := r) hin
      refine hb v i xs.length (mkL r.mar (xs.take i) k).2 rows.flatten xs[i] _ _ _ _ (by simp (maxSteps := 4000000) (disch := omega) only [Zq, evO, vbox, wr, Zeq, if_true, if_false, Nat.reduceEqDiff, Nat.reduceAdd, Nat.reduceLeDiff, Nat.reduceSub, and_self, and_true, true_and, reduceIte, reduceCtorEq, eq_self, implies_true, forall_const, false_implies, imp_self, decide_true, decide_false, t0]) (by simp (maxSteps := 4000000) (disch := omega) only [Zq, evO, vbox, wr, Zeq, if_true, if_false, Nat.reduceEqDiff, Nat.reduceAdd, Nat.reduceLeDiff, Nat.reduceSub, and_self, and_true, true_and, reduceIte, reduceCtorEq, eq_self, implies_true, forall_const, false_implies, imp_self, decide_true, decide_false, t1]) (by simp (maxSteps := 4000000) (disch := omega) only [Zq, evO, vbox, wr, Zeq, if_true, if_false, Nat.reduceEqDiff, Nat.reduceAdd, Nat.reduceLeDiff, Nat.reduceSub, and_self, and_true, true_and, reduceIte, reduceCtorEq, eq_self, implies_true, forall_const, false_implies, imp_self, decide_true, decide_false, t5]) hin h1 (by rw [hrow']; exact r.rdk hrd k1) (by omega) ?_
      rintro T' H' e0 e5 e1 k2
      simp (maxSteps := 4000000) (disch := omega) only [Zq, evO, vbox, wr, Zeq, if_true, if_false, Nat.reduceEqDiff, Nat.reduceAdd, Nat.reduceLeDiff, Nat.reduceSub, and_self, and_true, true_and, reduceIte, reduceCtorEq, eq_self, implies_true, forall_const, false_implies, imp_self, decide_true, decide_false, t0, t5] at e0 e5
      simp (maxSteps := 4000000) (disch := omega) only [Zq, evO, vbox, wr, Zeq, if_true, if_false, Nat.reduceEqDiff, Nat.reduceAdd, Nat.reduceLeDiff, Nat.reduceSub, and_self, and_true, true_and, reduceIte, reduceCtorEq, eq_self, implies_true, forall_const, false_implies, imp_self, decide_true, decide_false, e0, e5, e1]
      exact ⟨by omega, by rw [mkL_take hin], k1.trans k2⟩
    · obtain rfl : i = xs.length := by omega
      simp (maxSteps := 4000000) (disch := omega) only [Zq, evO, vbox, wr, Zeq, if_true, if_false, Nat.reduceEqDiff, Nat.reduceAdd, Nat.reduceLeDiff, Nat.reduceSub, and_self, and_true, true_and, reduceIte, reduceCtorEq, eq_self, implies_true, forall_const, false_implies, imp_self, decide_true, decide_false, t0, t1, t5, h1.len_]
      exact ⟨k1, by rw [List.take_length]; rfl⟩
/-! ### Cells in place -/
theorem mid_get {q o : Nat} {P0 B Q0 : List Value} {c : Value} (hP : P0.length = q) (hc : B[o]? = some c) : (mid P0 B Q0)[q + o]? = some c := by
  have ho := (List.getElem?_eq_some_iff.1 hc).1
  rw [mid, List.getElem?_append_left (by rw [List.length_append]; omega), List.getElem?_append_right (by omega), hP, Nat.add_sub_cancel_left]
  exact hc
theorem ld_mid {H1 : Heap} {p q o : Nat} {P0 B Q0 : List Value} {c : Value} (hg : H1.get p = some (.own (mid P0 B Q0))) (hP : P0.length = q) (hc : B[o]? = some c) : vld1 H1 (.pointer (some ⟨p, q + o, none⟩)) = some (c, H1) := by
  simp only [vld1, hg, lkO, Obj.cells, mid_get hP hc, lkC]
theorem row_get {cs row : List Value} {i sz o : Nat} {c : Value} (h : (cs.drop (i * sz)).take sz = row) (ho : o < sz) (hc : row[o]? = some c) : cs[i * sz + o]? = some c := by
  rw [← h, List.getElem?_take_of_lt ho, List.getElem?_drop] at hc
  exact hc
end Go.Proofs.Ytkadelndmaegdaa.AX
