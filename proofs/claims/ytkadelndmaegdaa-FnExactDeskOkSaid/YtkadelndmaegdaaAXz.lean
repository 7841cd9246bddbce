/- The laws' helpers over slices of what has a helper of its own. No condition beyond each law's own; of a program: that a function has such a form. -/
import Derived.Test.YtkadelndmaegdaaAXy
namespace Go.Proofs.Ytkadelndmaegdaa.AX
open Go
set_option maxRecDepth 10000
set_option linter.unusedSimpArgs false
set_option linter.unusedVariables false

/-! ### Regions of open order in which what reads has an order to what turns -/
def isLoad : XOp → Bool
  | .load1 _ | .loadN .. | .b2s _ => true
  | _ => false
def tame (pre : List (List Nat)) (os : List XO) : Bool := (List.range os.length).all fun i => (List.range os.length).all fun j => match os[i]?, os[j]? with
  | some a, some b => !(isLoad a.op && (kindE b.op || kindA b.op)) || (pre_ pre i j || pre_ pre j i)
  | _, _ => true
def okTr (os : List XO) : Tr → Prop
  | .L i _ => ∃ o, os[i]? = some o ∧ isLoad o.op = true
  | .E i _ _ => ∃ o, os[i]? = some o ∧ kindE o.op = true
  | .A i _ => ∃ o, os[i]? = some o ∧ kindA o.op = true
theorem tame_get {pre : List (List Nat)} {os : List XO} (h : tame pre os = true) {i j : Nat} {a b : XO} (ha : os[i]? = some a) (hb : os[j]? = some b) (hl : isLoad a.op = true) (hk : kindE b.op = true ∨ kindA b.op = true) : (pre_ pre i j || pre_ pre j i) = true := by
  simp only [tame, List.all_eq_true, List.mem_range] at h
  have := h i (List.getElem?_eq_some_iff.1 ha).1 j (List.getElem?_eq_some_iff.1 hb).1
  rw [ha, hb] at this
  have hk' : (kindE b.op || kindA b.op) = true := by rcases hk with hk | hk <;> simp [hk]
  simp only [hl, hk', Bool.and_self, Bool.not_true, Bool.false_or] at this
  exact this
theorem okTr_agrees {pre : List (List Nat)} {os : List XO} (h : tame pre os = true) {t u : Tr} (ht : okTr os t) (hu : okTr os u) : agrees pre t u := by
  cases t with
  | L i x =>
    obtain ⟨a, ha, hl⟩ := ht
    cases u with
    | L j y => trivial
    | E j H H' =>
      obtain ⟨b, hb, hk⟩ := hu
      show Zio _ _ _ _ _ _
      unfold Zio
      rw [if_pos (tame_get h ha hb hl (.inl hk))]
      trivial
    | A j y =>
      obtain ⟨b, hb, hk⟩ := hu
      show Zip _ _ _ _ _
      unfold Zip
      rw [if_pos (tame_get h ha hb hl (.inr hk))]
      trivial
  | E j H H' =>
    cases u with
    | L i x =>
      obtain ⟨b, hb, hk⟩ := ht
      obtain ⟨a, ha, hl⟩ := hu
      show Zio _ _ _ _ _ _
      unfold Zio
      rw [if_pos (tame_get h ha hb hl (.inl hk))]
      trivial
    | E _ _ _ => trivial
    | A _ _ => trivial
  | A j y =>
    cases u with
    | L i x =>
      obtain ⟨b, hb, hk⟩ := ht
      obtain ⟨a, ha, hl⟩ := hu
      show Zip _ _ _ _ _
      unfold Zip
      rw [if_pos (tame_get h ha hb hl (.inr hk))]
      trivial
    | E _ _ _ => trivial
    | A _ _ => trivial
theorem okTr_stable {pre : List (List Nat)} {os : List XO} (h : tame pre os = true) : ∀ {tr : List Tr}, (∀ t ∈ tr, okTr os t) → stable pre tr
  | [], _ => trivial
  | t :: tr, ht => by
    refine ⟨?_, okTr_stable h (fun u hu => ht u (by simp [hu]))⟩
    have key : ∀ us : List Tr, (∀ u ∈ us, okTr os u) → agreesAll pre t us := by
      intro us
      induction us with
      | nil => intro _; trivial
      | cons u us ih => intro hus; exact ⟨okTr_agrees h (ht t (by simp)) (hus u (by simp)), ih (fun v hv => hus v (by simp [hv]))⟩
    exact key tr (fun u hu => ht u (by simp [hu]))
theorem tame_dops {C : CallRel} {pre : List (List Nat)} {os0 : List XO} (h0 : tame pre os0 = true) : ∀ {os : List XO} {i : Nat} {tr : List Tr} {K : Tm → Heap → Prop} {T : Tm} {H : Heap}, os0.drop i = os → (∀ t ∈ tr, okTr os0 t) → Wops C os K T H → Dops C pre i os tr K T H
  | [], i, tr, K, T, H, _, ht, h => ⟨okTr_stable h0 ht, h⟩
  | o :: os, i, tr, K, T, H, hd, ht, h => by
    have ho : os0[i]? = some o := by
      have : (os0.drop i)[0]? = some o := by rw [hd]; rfl
      rwa [List.getElem?_drop] at this
    have hd' : os0.drop (i + 1) = os := by rw [← List.drop_drop, hd]; rfl
    simp only [Wops, Dops] at h ⊢
    split
    · rename_i hw
      rw [if_pos hw] at h
      have key : ∀ v H', Wops C os K (put T o.dst v) H' → Dops C pre (i + 1) os (trOf i T H H' o.op ++ tr) K (put T o.dst v) H' := fun v H' h1 => by
        refine tame_dops h0 hd' (fun t ht' => ?_) h1
        rcases List.mem_append.1 ht' with h2 | h2
        · cases hop : o.op <;> rw [hop] at h2 <;> simp only [trOf] at h2
          case load1 =>
            split at h2
            · rw [List.mem_singleton.1 h2]; exact ⟨o, ho, by rw [hop]; rfl⟩
            · cases h2
          case loadN =>
            split at h2
            · rw [List.mem_singleton.1 h2]; exact ⟨o, ho, by rw [hop]; rfl⟩
            · cases h2
          case b2s =>
            split at h2
            · rw [List.mem_singleton.1 h2]; exact ⟨o, ho, by rw [hop]; rfl⟩
            · cases h2
          all_goals first
            | (cases h2; done)
            | (rw [List.mem_singleton.1 h2]; exact ⟨o, ho, by rw [hop]; rfl⟩)
        · exact ht t h2
      exact h.imp (fun _ _ _ _ _ h => h) key
    · rename_i hw
      rw [if_neg hw] at h
      exact tame_dops h0 hd' ht h
theorem G_tame {C : CallRel} {pre : List (List Nat)} {os : List XO} {ks : List Fr} {Q : XE → Tm → Heap → Prop} {T : Tm} {H : Heap} (hc : tame pre os = true) (h : GO C os ks Q T H) : G C (.dreg pre os) ks Q T H := tame_dops hc rfl (fun _ h => by cases h) h
def ldOp (agg : Bool) (sz : Nat) (x : XArg) : XOp := if agg = true then .loadN sz x else .load1 x
def vload (agg : Bool) (sz : Nat) (H : Heap) (p : Value) : Option (Value × Heap) := if agg = true then vldN H sz p else vld1 H p
theorem GO_ld {T : Tm} {H : Heap} {C : CallRel} {d : Option Nat} {os : List XO} {ks : List Fr} {Q : XE → Tm → Heap → Prop} {agg : Bool} {sz : Nat} {x : XArg} : GO C (⟨d, ldOp agg sz x, none⟩ :: os) ks Q T H = oK C d os ks Q T (vload agg sz H (ev T x)) := by
  cases agg
  · simp only [ldOp, vload, Bool.false_eq_true, if_false, Zbr]
  · simp only [ldOp, vload, if_true, Zbs]
/-- How an element is taken out of a slice. -/
structure Elem {α : Type} (r : Rep α) (agg : Bool) (sz : Nat) : Prop where
  eq : r.sz = sz
  pos : 0 < sz
  agg_ : agg = true → ∀ cs, r.val cs = .agg cs.toArray
  one_ : agg = false → sz = 1 ∧ r.val = one1
section
variable {α : Type} {r : Rep α} {agg : Bool} {sz : Nat} {H : Heap}
theorem flat_row : ∀ {rows : List (List Value)}, (∀ c ∈ rows, c.length = sz) → ∀ {i : Nat} {row : List Value}, rows[i]? = some row → (rows.flatten.drop (i * sz)).take sz = row
  | [], _, i, row, h => by simp at h
  | c :: rows, hs, 0, row, h => by
    have : c = row := by simpa using h
    subst this
    have hl := hs c (by simp)
    rw [Nat.zero_mul, List.drop_zero, List.flatten_cons, List.take_append_of_le_length (by omega), List.take_of_length_le (by omega)]
  | c :: rows, hs, i + 1, row, h => by
    have hl := hs c (by simp)
    have h' : rows[i]? = some row := by simpa using h
    rw [List.flatten_cons, show (i + 1) * sz = c.length + i * sz by rw [Nat.add_mul, Nat.one_mul, hl]; omega, List.drop_append, List.drop_of_length_le (by omega), List.nil_append, Nat.add_sub_cancel_left]
    exact flat_row (fun c hc => hs c (by simp [hc])) h'
theorem load_elem (he : Elem r agg sz) {v : Value} {n : Nat} {rows : List (List Value)} {xs : List α} (h : Sl H v sz n rows.flatten) (hr : rdRows r H rows xs) {i : Nat} (hi : i < n) {row : List Value} (hrow : rows[i]? = some row) : vload agg sz H (adr v i sz 0) = some (r.val row, H) := by
  have hs := hr.sz
  rw [he.eq] at hs
  have hf := flat_row hs hrow
  cases agg with
  | true =>
    have := Sl.ldN (o := 0) (m := sz) h hi he.pos (by omega)
    rw [Nat.add_zero, hf] at this
    simp only [vload, if_true]
    rw [this, he.agg_ rfl]
  | false =>
    obtain ⟨e1, e2⟩ := he.one_ rfl
    subst e1
    have hl : row.length = 1 := hs row (List.mem_of_getElem? hrow)
    obtain ⟨w, rfl⟩ : ∃ w, row = [w] := by
      match row, hl with
      | [w], _ => exact ⟨w, rfl⟩
    have hc : rows.flatten[i * 1 + 0]? = some w := by
      have h0 : ((rows.flatten.drop (i * 1)).take 1)[0]? = some w := by rw [hf]; rfl
      rw [List.getElem?_take_of_lt (by omega), List.getElem?_drop] at h0
      exact h0
    simp only [vload, Bool.false_eq_true, if_false]
    rw [Sl.ld h hi hc, e2]
    rfl
theorem tot_get {xs : List α} {i : Nat} (hi : i < xs.length) : r.tot xs[i] ≤ (rSlc r).tot xs := by
  have : ∀ xs : List α, ∀ x ∈ xs, r.tot x ≤ (xs.map r.tot).sum := by
    intro xs
    induction xs with
    | nil => intro x hx; cases hx
    | cons y ys ih =>
      intro x hx
      rw [List.map_cons, List.sum_cons]
      rcases List.mem_cons.1 hx with rfl | hx
      · omega
      · have := ih x hx; omega
  have h1 := this xs _ (List.getElem_mem hi)
  have h2 : (rSlc r).tot xs = xs.length + (xs.map r.tot).sum := rfl
  omega
theorem rows_get {rows : List (List Value)} {xs : List α} (hr : rdRows r H rows xs) {i : Nat} (hi : i < xs.length) : ∃ row, rows[i]? = some row ∧ r.rd H row xs[i] := by
  have hl := hr.length
  have h1 : rows[i]? = some rows[i] := List.getElem?_eq_getElem (by omega)
  obtain ⟨b, h2, h3⟩ := hr.get i _ h1
  rw [List.getElem?_eq_getElem hi] at h2
  injection h2 with h2
  exact ⟨_, h1, by rw [h2]; exact h3⟩
end
/-- What is done, and behind it what is not. -/
def fillU (rows : List (List Value)) (zs : List Value) (m : Nat) : List Value := rows.flatten ++ (List.replicate m zs).flatten
theorem stO_fill {H1 : Heap} {p sz m : Nat} {x : Value} {row zs : List Value} {rows : List (List Value)} (hx : noTup x = true) (hv : vcells x = row) (hr : row.length = sz) (hz : zs.length = sz) (hs : ∀ c ∈ rows, c.length = sz) {i : Nat} (hi : rows.length = i) :
    stO H1 sz p (i * sz) x (some (.own (fillU rows zs (m + 1)))) = some (undef, H1.set p (fillU (rows ++ [row]) zs m)) := by
  have hl : rows.flatten.length = i * sz := by rw [flatten_length hs, hi]
  have hl2 : (List.replicate (m + 1) zs).flatten.length = (m + 1) * sz := by
    rw [flatten_length (sz := sz) (fun c hc => by rw [List.eq_of_mem_replicate hc]; exact hz), List.length_replicate]
  have hfit : i * sz + sz ≤ (fillU rows zs (m + 1)).length := by
    unfold fillU
    rw [List.length_append, hl, hl2, Nat.add_mul, Nat.one_mul]
    omega
  rw [stO_own, hv, if_pos ⟨hx, hr, hfit⟩]
  · congr 3
    unfold wr fillU
    rw [List.take_append_of_le_length (by omega), List.take_of_length_le (by omega), List.replicate_succ, List.flatten_cons, List.drop_append, List.drop_of_length_le (by omega), List.nil_append, hr, hl, Nat.add_sub_cancel_left, List.drop_append, List.drop_of_length_le (by omega), List.nil_append, hz, Nat.sub_self, List.drop_zero]
    simp
theorem ownRows_snoc {α : Type} {r : Rep α} {H : Heap} : ∀ {rows : List (List Value)} {xs : List α} {Fs : List (List Nat)} {c : List Value} {x : α} {F : List Nat}, ownRows r H rows xs Fs → r.own H c x F → ownRows r H (rows ++ [c]) (xs ++ [x]) (Fs ++ [F])
  | [], [], [], _, _, _, _, h => ⟨h, trivial⟩
  | [], [], _ :: _, _, _, _, h, _ => h.elim
  | [], _ :: _, _, _, _, _, h, _ => h.elim
  | _ :: _, [], _, _, _, _, h, _ => h.elim
  | _ :: _, _ :: _, [], _, _, _, h, _ => h.elim
  | _ :: _, _ :: _, _ :: _, _, _, _, h, h' => ⟨h.1, ownRows_snoc h.2 h'⟩
def xToCall (agg : Bool) (sz bytes : Nat) (zs : List Value) (f : FuncId) : XFun := (.mk 1 (.seq (.reg [(.mk (.some 2) (.mov (.const (.slice none 0 0))) none)]) (.seq (.reg [(.mk (.some 5) (.mov (.tmp 0)) none), (.mk (.some 6) (.len (.tmp 5)) none), (.mk (.some 7) (.mks sz bytes zs (.tmp 6) (.tmp 6)) none), (.mk (.some 3) (.mov (.tmp 7)) none)]) (.seq (.seq (.reg [(.mk (.some 4) (.mov (.const (.int (.i64) 0))) none)]) (.block 0 (.loop (.seq (.seq (.reg [(.mk (.some 8) (.mov (.tmp 4)) none), (.mk (.some 9) (.mov (.tmp 0)) none), (.mk (.some 10) (.len (.tmp 9)) none), (.mk (.some 11) (.bin (.lss) (.tmp 8) (.tmp 10)) none)]) (.cond (.tmp 11) (.skip) (.exit 0))) (.seq (.block 1 (.reg [(.mk (.some 14) (.mov (.tmp 3)) none), (.mk (.some 15) (.mov (.tmp 4)) none), (.mk (.some 16) (.mov (.tmp 0)) none), (.mk (.some 17) (.mov (.tmp 4)) none), (.mk (.some 18) (.idx sz (.tmp 16) (.tmp 17)) none), (.mk (.some 19) (ldOp agg sz (.tmp 18)) none), (.mk (.some 20) (.call f [(.tmp 19)]) none), (.mk (.some 21) (.idx sz (.tmp 14) (.tmp 15)) none), (.mk none (.store sz (.tmp 21) (.tmp 20)) none)])) (.reg [(.mk (.some 12) (.mov (.tmp 4)) none), (.mk (.some 13) (.bin (.add) (.tmp 12) (.const (.int (.i64) 1))) none), (.mk (.some 4) (.mov (.tmp 13)) none)])))))) (.seq (.reg [(.mk (.some 22) (.mov (.tmp 3)) none), (.mk (.some 2) (.mov (.tmp 22)) none)]) (.ret))))) [(.tmp 2)])
theorem toCall_is {P : Program} {g f : FuncId} {agg : Bool} {sz bytes : Nat} {zs : List Value} (hx : cfun P g = some (xToCall agg sz bytes zs f)) (hb : bytes ≤ 4096) (hz : zs.length = sz) {α : Type} {r : Rep α} (he : Elem r agg sz) (hf : IsTo P r f) : IsTo P (rSlc r) g := by
  intro H cs xs hrd htot
  obtain ⟨v, rows, rfl, h, hrows⟩ := hrd
  rw [he.eq] at h
  have hn : xs.length ≤ 1048576 := Nat.le_trans (Nat.le_add_right _ _) htot
  have hbn : bytes * xs.length ≤ 140737488355328 := Nat.le_trans (Nat.mul_le_mul hb hn) (by omega)
  refine Run.intro hx rfl ?_
  have hval : ∀ v, (rSlc r).val [v] = v := fun _ => rfl
  simp only [hval]
  simp (maxSteps := 4000000) (disch := omega) only [Zq, evO, vbox, wr, Zeq, if_true, if_false, Nat.reduceEqDiff, Nat.reduceAdd, Nat.reduceLeDiff, Nat.reduceSub, and_self, and_true, true_and, reduceIte, reduceCtorEq, eq_self, implies_true, forall_const, false_implies, imp_self, decide_true, decide_false, xToCall, h.len_]
  refine G_for xs.length (fun i T H1 => T 0 = v ∧ T 3 = .slice (some ⟨H.nxt, 0, none⟩) xs.length sz ∧ T 4 = .int .i64 (i : Int) ∧ Keep H H1 ∧ H.nxt < H1.nxt ∧
    ∃ done Fs, done.length = i ∧ H1.get H.nxt = some (.own (fillU done zs (xs.length - i))) ∧ ownRows r H1 done (xs.take i) Fs ∧ Fs.flatten.Nodup ∧ ∀ j ∈ Fs.flatten, H.nxt < j) 0 (Nat.zero_le _) ?_ ?_
  · simp (maxSteps := 4000000) (disch := omega) only [Zq, evO, vbox, wr, Zeq, if_true, if_false, Nat.reduceEqDiff, Nat.reduceAdd, Nat.reduceLeDiff, Nat.reduceSub, and_self, and_true, true_and, reduceIte, reduceCtorEq, eq_self, implies_true, forall_const, false_implies, imp_self, decide_true, decide_false]
    refine ⟨Keep.push _ _, Nat.lt_succ_self _, [], [], rfl, ?_, trivial, by simp, by simp⟩
    simp [fillU]
  · rintro i T H1 hi ⟨t0, t3, t4, k1, n1, done, Fs, hd, g1, ho, hnd, hgt⟩
    have h1 := h.keep k1
    by_cases hin : i < xs.length
    · obtain ⟨row, hrow, hrd⟩ := rows_get hrows hin
      have hld := load_elem he h1 (hrows.keep k1) hin hrow
      simp (maxSteps := 4000000) (disch := omega) only [Zq, evO, vbox, wr, Zeq, if_true, if_false, Nat.reduceEqDiff, Nat.reduceAdd, Nat.reduceLeDiff, Nat.reduceSub, and_self, and_true, true_and, reduceIte, reduceCtorEq, eq_self, implies_true, forall_const, false_implies, imp_self, decide_true, decide_false, t0, t3, t4, h1.len_, Sl.idx h1 hin, GO_ld, hld]
      refine GO_call ((hf H1 row xs[i] (r.rdk hrd k1) (Nat.le_trans (tot_get hin) htot)).mono ?_)
      rintro w H2 ⟨k2, ds, F, rfl, hown, hfr⟩
      have g2 : H2.get H.nxt = some (.own (fillU done zs (xs.length - (i + 1) + 1))) := by
        rw [k2.get _ n1, g1]
        congr 3
        omega
      obtain ⟨e1, e2⟩ := r.valc (r.ownrd hown)
      have hdl : ds.length = sz := by rw [r.len (r.ownrd hown), he.eq]
      have hst : ∀ H3 : Heap, stO H3 sz H.nxt (i * sz) (r.val ds) (some (.own (fillU done zs (xs.length - (i + 1) + 1)))) = some (undef, H3.set H.nxt (fillU (done ++ [ds]) zs (xs.length - (i + 1)))) := fun H3 =>
        stO_fill e2 e1 hdl hz (by rw [← he.eq]; exact ho.rd.sz) hd
      have n2 := k2.nxt
      simp (maxSteps := 4000000) (disch := omega) only [Zq, evO, vbox, wr, Zeq, if_true, if_false, Nat.reduceEqDiff, Nat.reduceAdd, Nat.reduceLeDiff, Nat.reduceSub, and_self, and_true, true_and, reduceIte, reduceCtorEq, eq_self, implies_true, forall_const, false_implies, imp_self, decide_true, decide_false, t0, t3, t4, g2, hst]
      refine ⟨hin, (k1.trans k2).set' (Nat.le_refl _), by omega, done ++ [ds], Fs ++ [F], by simp [hd], rfl, ?_, ?_, ?_⟩
      · rw [List.take_add_one, List.getElem?_eq_getElem hin]
        have hlt := ho.lt
        refine ownRows_snoc (ho.keep (by rw [Zbh]; omega) (fun j hj => ?_)) (r.ownk hown (by rw [Zbh]; exact Nat.le_refl _) (fun j hj => ?_))
        · rw [Zbi, if_neg (by have := hgt j hj; omega), k2.get j (hlt j hj)]
        · rw [Zbi, if_neg (by have := hfr.2 j hj; omega)]
      · rw [List.flatten_append, List.flatten_cons, List.flatten_nil, List.append_nil]
        refine List.nodup_append.2 ⟨hnd, hfr.1, fun a ha b hb => ?_⟩
        have h2 := ho.lt a ha
        have h3 := (hfr.2 b hb).1
        omega
      · intro j hj
        rw [List.flatten_append, List.flatten_cons, List.flatten_nil, List.append_nil] at hj
        rcases List.mem_append.1 hj with hj | hj
        · exact hgt j hj
        · have := (hfr.2 j hj).1; omega
    · simp (maxSteps := 4000000) (disch := omega) only [Zq, evO, vbox, wr, Zeq, if_true, if_false, Nat.reduceEqDiff, Nat.reduceAdd, Nat.reduceLeDiff, Nat.reduceSub, and_self, and_true, true_and, reduceIte, reduceCtorEq, eq_self, implies_true, forall_const, false_implies, imp_self, decide_true, decide_false, t0, t3, t4, h1.len_]
      obtain rfl : i = xs.length := by omega
      rw [List.take_length] at ho
      rw [Nat.sub_self] at g1
      refine ⟨k1, [.slice (some ⟨H.nxt, 0, none⟩) xs.length sz], H.nxt :: Fs.flatten, rfl, .inr ⟨H.nxt, 0, [], done, [], Fs, by rw [he.eq], n1, by rw [g1]; simp [fillU, mid], rfl, ho, rfl⟩, ?_, ?_⟩
      · refine List.nodup_cons.2 ⟨fun hm => ?_, hnd⟩
        have := hgt _ hm
        omega
      · intro j hj
        rcases List.mem_cons.1 hj with rfl | hj
        · exact ⟨Nat.le_refl _, n1⟩
        · exact ⟨by have := hgt j hj; omega, ho.lt j hj⟩
def xEqCall (agg : Bool) (sz : Nat) (f : FuncId) : XFun := (.mk 2 (.seq (.reg [(.mk (.some 4) (.mov (.const (.bool false))) none)]) (.seq (.seq (.reg [(.mk (.some 6) (.mov (.tmp 0)) none), (.mk (.some 7) (.len (.tmp 6)) none), (.mk (.some 8) (.mov (.tmp 1)) none), (.mk (.some 9) (.len (.tmp 8)) none), (.mk (.some 10) (.bin (.neq) (.tmp 7) (.tmp 9)) none)]) (.cond (.tmp 10) (.seq (.reg [(.mk (.some 4) (.mov (.const (.bool false))) none)]) (.ret)) (.skip))) (.seq (.seq (.reg [(.mk (.some 5) (.mov (.const (.int (.i64) 0))) none)]) (.block 0 (.loop (.seq (.seq (.reg [(.mk (.some 11) (.mov (.tmp 5)) none), (.mk (.some 12) (.mov (.tmp 0)) none), (.mk (.some 13) (.len (.tmp 12)) none), (.mk (.some 14) (.bin (.lss) (.tmp 11) (.tmp 13)) none)]) (.cond (.tmp 14) (.skip) (.exit 0))) (.seq (.block 1 (.seq (.dreg [[], [], [0, 1], [2, 0, 1], [], [], [4, 5], [6, 4, 5], [3, 2, 0, 1, 7, 6, 4, 5], [8, 3, 2, 0, 1, 7, 6, 4, 5]] [(.mk (.some 17) (.mov (.tmp 0)) none), (.mk (.some 18) (.mov (.tmp 5)) none), (.mk (.some 19) (.idx sz (.tmp 17) (.tmp 18)) none), (.mk (.some 20) (ldOp agg sz (.tmp 19)) none), (.mk (.some 21) (.mov (.tmp 1)) none), (.mk (.some 22) (.mov (.tmp 5)) none), (.mk (.some 23) (.idx sz (.tmp 21) (.tmp 22)) none), (.mk (.some 24) (ldOp agg sz (.tmp 23)) none), (.mk (.some 25) (.call f [(.tmp 20), (.tmp 24)]) none), (.mk (.some 26) (.un (.not) (.tmp 25)) none)]) (.cond (.tmp 26) (.seq (.reg [(.mk (.some 4) (.mov (.const (.bool false))) none)]) (.ret)) (.skip)))) (.reg [(.mk (.some 15) (.mov (.tmp 5)) none), (.mk (.some 16) (.bin (.add) (.tmp 15) (.const (.int (.i64) 1))) none), (.mk (.some 5) (.mov (.tmp 16)) none)])))))) (.seq (.reg [(.mk (.some 4) (.mov (.const (.bool true))) none)]) (.ret))))) [(.tmp 4)])
theorem eqCall_is {P : Program} {g f : FuncId} {agg : Bool} {sz : Nat} (hx : cfun P g = some (xEqCall agg sz f)) {α : Type} {r : Rep α} (he : Elem r agg sz) (hf : IsEq P r f) : IsEq P (rSlc r) g := by
  intro H cs ds xs hrd hrd' htot
  obtain ⟨v, rows, rfl, h, hrows⟩ := hrd
  obtain ⟨w, rows', rfl, h', hrows'⟩ := hrd'
  rw [he.eq] at h h'
  have hn : xs.length ≤ 4611686018427387904 := Nat.le_trans (Nat.le_add_right _ _) htot
  refine Run.intro hx rfl ?_
  have hval : ∀ v, (rSlc r).val [v] = v := fun _ => rfl
  simp only [hval]
  simp (maxSteps := 4000000) (disch := omega) only [Zq, evO, vbox, wr, Zeq, if_true, if_false, Nat.reduceEqDiff, Nat.reduceAdd, Nat.reduceLeDiff, Nat.reduceSub, and_self, and_true, true_and, reduceIte, reduceCtorEq, eq_self, implies_true, forall_const, false_implies, imp_self, decide_true, decide_false, xEqCall, h.len_, h'.len_]
  refine G_for xs.length (fun i T H1 => T 0 = v ∧ T 1 = w ∧ T 5 = .int .i64 (i : Int) ∧ Keep H H1) 0 (Nat.zero_le _) ?_ ?_
  · simp (maxSteps := 4000000) (disch := omega) only [Zq, evO, vbox, wr, Zeq, if_true, if_false, Nat.reduceEqDiff, Nat.reduceAdd, Nat.reduceLeDiff, Nat.reduceSub, and_self, and_true, true_and, reduceIte, reduceCtorEq, eq_self, implies_true, forall_const, false_implies, imp_self, decide_true, decide_false]
    repeat' (first | exact Keep.refl _ | assumption | refine Keep.push' ?_ | refine Keep.set' ?_ ?_ | refine Keep.moved' ?_ ?_ | omega)
  · rintro i T H1 hi ⟨t0, t1, t5, k1⟩
    have h1 := h.keep k1
    have h1' := h'.keep k1
    by_cases hin : i < xs.length
    · obtain ⟨row, hrow, hrd⟩ := rows_get hrows hin
      obtain ⟨row', hrow', hrd'⟩ := rows_get hrows' hin
      have hld := load_elem he h1 (hrows.keep k1) hin hrow
      have hld' := load_elem he h1' (hrows'.keep k1) hin hrow'
      simp (maxSteps := 4000000) (disch := omega) only [Zq, evO, vbox, wr, Zeq, if_true, if_false, Nat.reduceEqDiff, Nat.reduceAdd, Nat.reduceLeDiff, Nat.reduceSub, and_self, and_true, true_and, reduceIte, reduceCtorEq, eq_self, implies_true, forall_const, false_implies, imp_self, decide_true, decide_false, t0, t1, t5, h1.len_]
      refine G_tame (by cases agg <;> rfl) ?_
      simp (maxSteps := 4000000) (disch := omega) only [Zq, evO, vbox, wr, Zeq, if_true, if_false, Nat.reduceEqDiff, Nat.reduceAdd, Nat.reduceLeDiff, Nat.reduceSub, and_self, and_true, true_and, reduceIte, reduceCtorEq, eq_self, implies_true, forall_const, false_implies, imp_self, decide_true, decide_false, t0, t1, t5, Sl.idx h1 hin, GO_ld, hld, Sl.idx h1' hin, hld']
      refine GO_call ((hf H1 row row' xs[i] (r.rdk hrd k1) (r.rdk hrd' k1) (Nat.le_trans (tot_get hin) htot)).mono ?_)
      rintro _ H2 ⟨k2, rfl⟩
      simp (maxSteps := 4000000) (disch := omega) only [Zq, evO, vbox, wr, Zeq, if_true, if_false, Nat.reduceEqDiff, Nat.reduceAdd, Nat.reduceLeDiff, Nat.reduceSub, and_self, and_true, true_and, reduceIte, reduceCtorEq, eq_self, implies_true, forall_const, false_implies, imp_self, decide_true, decide_false, t0, t1, t5]
      exact ⟨hin, k1.trans k2⟩
    · simp (maxSteps := 4000000) (disch := omega) only [Zq, evO, vbox, wr, Zeq, if_true, if_false, Nat.reduceEqDiff, Nat.reduceAdd, Nat.reduceLeDiff, Nat.reduceSub, and_self, and_true, true_and, reduceIte, reduceCtorEq, eq_self, implies_true, forall_const, false_implies, imp_self, decide_true, decide_false, t0, t1, t5, h1.len_]
      exact k1
def xSzCall (agg : Bool) (sz : Nat) (f : FuncId) : XFun := (.mk 2 (.seq (.reg [(.mk (.some 4) (.mov (.const (.int (.i64) 0))) none)]) (.seq (.reg [(.mk (.some 6) (.mov (.tmp 1)) none), (.mk (.some 7) (.mov (.tmp 0)) none), (.mk (.some 8) (.len (.tmp 7)) none), (.mk (.some 9) (.bin (.sub) (.tmp 6) (.tmp 8)) none), (.mk (.some 1) (.mov (.tmp 9)) none)]) (.seq (.seq (.reg [(.mk (.some 10) (.mov (.tmp 1)) none), (.mk (.some 11) (.bin (.lss) (.tmp 10) (.const (.int (.i64) 0))) none)]) (.cond (.tmp 11) (.seq (.reg [(.mk (.some 4) (.mov (.const (.int (.i64) (-1)))) none)]) (.ret)) (.skip))) (.seq (.seq (.reg [(.mk (.some 5) (.mov (.const (.int (.i64) 0))) none)]) (.block 0 (.loop (.seq (.seq (.reg [(.mk (.some 12) (.mov (.tmp 5)) none), (.mk (.some 13) (.mov (.tmp 0)) none), (.mk (.some 14) (.len (.tmp 13)) none), (.mk (.some 15) (.bin (.lss) (.tmp 12) (.tmp 14)) none)]) (.cond (.tmp 15) (.skip) (.exit 0))) (.seq (.block 1 (.seq (.reg [(.mk (.some 18) (.mov (.tmp 0)) none), (.mk (.some 19) (.mov (.tmp 5)) none), (.mk (.some 20) (.idx sz (.tmp 18) (.tmp 19)) none), (.mk (.some 21) (ldOp agg sz (.tmp 20)) none), (.mk (.some 22) (.mov (.tmp 1)) none), (.mk (.some 23) (.call f [(.tmp 21), (.tmp 22)]) none), (.mk (.some 1) (.mov (.tmp 23)) none)]) (.seq (.reg [(.mk (.some 24) (.mov (.tmp 1)) none), (.mk (.some 25) (.bin (.lss) (.tmp 24) (.const (.int (.i64) 0))) none)]) (.cond (.tmp 25) (.seq (.reg [(.mk (.some 4) (.mov (.const (.int (.i64) (-1)))) none)]) (.ret)) (.skip))))) (.reg [(.mk (.some 16) (.mov (.tmp 5)) none), (.mk (.some 17) (.bin (.add) (.tmp 16) (.const (.int (.i64) 1))) none), (.mk (.some 5) (.mov (.tmp 17)) none)])))))) (.seq (.reg [(.mk (.some 26) (.mov (.tmp 1)) none), (.mk (.some 4) (.mov (.tmp 26)) none)]) (.ret)))))) [(.tmp 4)])
theorem szCall_is {P : Program} {g f : FuncId} {agg : Bool} {sz : Nat} (hx : cfun P g = some (xSzCall agg sz f)) {α : Type} {r : Rep α} (he : Elem r agg sz) (hf : IsSz P r f) : IsSz P (rSlc r) g := by
  intro H cs xs q hrd hfit hq
  obtain ⟨v, rows, rfl, h, hrows⟩ := hrd
  rw [he.eq] at h
  have hn : xs.length ≤ 9223372036854775807 := hfit.1
  have htot : (rSlc r).tot xs = xs.length + (xs.map r.tot).sum := rfl
  rw [htot]
  refine Run.intro hx rfl ?_
  have hval : ∀ v, (rSlc r).val [v] = v := fun _ => rfl
  simp only [hval]
  have hw : IntKind.i64.wrap ((q : Int) - (xs.length : Int)) = (q : Int) - (xs.length : Int) := wrap64 (by omega) (by omega)
  by_cases hle : xs.length ≤ q
  · have hw2 : IntKind.i64.wrap ((q : Int) - (xs.length : Int)) = ((q - xs.length : Nat) : Int) := by rw [hw]; omega
    simp (maxSteps := 4000000) (disch := omega) only [Zq, evO, vbox, wr, Zeq, if_true, if_false, Nat.reduceEqDiff, Nat.reduceAdd, Nat.reduceLeDiff, Nat.reduceSub, and_self, and_true, true_and, reduceIte, reduceCtorEq, eq_self, implies_true, forall_const, false_implies, imp_self, decide_true, decide_false, xSzCall, h.len_, hw2]
    refine G_for xs.length (fun i T H1 => T 0 = v ∧ T 5 = .int .i64 (i : Int) ∧ Keep H H1 ∧ ∃ q' : Nat, T 1 = .int .i64 (q' : Int) ∧ q' + ((xs.take i).map r.tot).sum + xs.length ≤ q) 0 (Nat.zero_le _) ?_ ?_
    · simp (maxSteps := 4000000) (disch := omega) only [Zq, evO, vbox, wr, Zeq, if_true, if_false, Nat.reduceEqDiff, Nat.reduceAdd, Nat.reduceLeDiff, Nat.reduceSub, and_self, and_true, true_and, reduceIte, reduceCtorEq, eq_self, implies_true, forall_const, false_implies, imp_self, decide_true, decide_false]
      exact ⟨Keep.refl _, q - xs.length, rfl, by simp; omega⟩
    · rintro i T H1 hi ⟨t0, t5, k1, q', t1, hq'⟩
      have h1 := h.keep k1
      by_cases hin : i < xs.length
      · obtain ⟨row, hrow, hrd⟩ := rows_get hrows hin
        have hld := load_elem he h1 (hrows.keep k1) hin hrow
        simp (maxSteps := 4000000) (disch := omega) only [Zq, evO, vbox, wr, Zeq, if_true, if_false, Nat.reduceEqDiff, Nat.reduceAdd, Nat.reduceLeDiff, Nat.reduceSub, and_self, and_true, true_and, reduceIte, reduceCtorEq, eq_self, implies_true, forall_const, false_implies, imp_self, decide_true, decide_false, t0, t1, t5, h1.len_, Sl.idx h1 hin, GO_ld, hld]
        refine GO_call ((hf H1 row xs[i] q' (r.rdk hrd k1) (hfit.2 _ (List.getElem_mem hin)) (by omega)).mono ?_)
        rintro w H2 ⟨k2, hw⟩
        rcases hw with rfl | ⟨q2, rfl, hq2⟩
        · simp (maxSteps := 4000000) (disch := omega) only [Zq, evO, vbox, wr, Zeq, if_true, if_false, Nat.reduceEqDiff, Nat.reduceAdd, Nat.reduceLeDiff, Nat.reduceSub, and_self, and_true, true_and, reduceIte, reduceCtorEq, eq_self, implies_true, forall_const, false_implies, imp_self, decide_true, decide_false, t0, t1, t5]
          exact ⟨k1.trans k2, by simp⟩
        · simp (maxSteps := 4000000) (disch := omega) only [Zq, evO, vbox, wr, Zeq, if_true, if_false, Nat.reduceEqDiff, Nat.reduceAdd, Nat.reduceLeDiff, Nat.reduceSub, and_self, and_true, true_and, reduceIte, reduceCtorEq, eq_self, implies_true, forall_const, false_implies, imp_self, decide_true, decide_false, t0, t1, t5]
          refine ⟨hin, k1.trans k2, q2, rfl, ?_⟩
          rw [List.take_add_one, List.getElem?_eq_getElem hin, List.map_append, List.sum_append]
          simp only [Option.toList_some, List.map_cons, List.map_nil, List.sum_cons, List.sum_nil]
          omega
      · simp (maxSteps := 4000000) (disch := omega) only [Zq, evO, vbox, wr, Zeq, if_true, if_false, Nat.reduceEqDiff, Nat.reduceAdd, Nat.reduceLeDiff, Nat.reduceSub, and_self, and_true, true_and, reduceIte, reduceCtorEq, eq_self, implies_true, forall_const, false_implies, imp_self, decide_true, decide_false, t0, t1, t5, h1.len_]
        obtain rfl : i = xs.length := by omega
        rw [List.take_length] at hq'
        exact ⟨k1, .inr ⟨q', rfl, by omega⟩⟩
  · simp (maxSteps := 4000000) (disch := omega) only [Zq, evO, vbox, wr, Zeq, if_true, if_false, Nat.reduceEqDiff, Nat.reduceAdd, Nat.reduceLeDiff, Nat.reduceSub, and_self, and_true, true_and, reduceIte, reduceCtorEq, eq_self, implies_true, forall_const, false_implies, imp_self, decide_true, decide_false, xSzCall, h.len_, hw]
    exact ⟨Keep.refl _, by simp⟩
end Go.Proofs.Ytkadelndmaegdaa.AX
