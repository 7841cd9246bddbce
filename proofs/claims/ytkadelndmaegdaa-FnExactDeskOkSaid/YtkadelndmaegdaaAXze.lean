/- Loops with what stays in them; slices read element by element; small facts. No condition beyond each law's own; nothing of the program. -/
import Derived.Test.YtkadelndmaegdaaAXzd
namespace Go.Proofs.Ytkadelndmaegdaa.AX
open Go
set_option maxRecDepth 10000
set_option linter.unusedSimpArgs false
set_option linter.unusedVariables false
def Fix (T T' : Tm) : List Nat → Prop
  | [] => True
  | c :: cs => T' c = T c ∧ Fix T T' cs
theorem fix_nil {T T' : Tm} : Fix T T' [] = True := nofl rfl
theorem fix_cons {T T' : Tm} {c : Nat} {cs : List Nat} : Fix T T' (c :: cs) = (T' c = T c ∧ Fix T T' cs) := nofl rfl
theorem Fix.refl (T : Tm) : ∀ cs, Fix T T cs
  | [] => trivial
  | c :: cs => ⟨rfl, Fix.refl T cs⟩
theorem Fix.trans {T T' T'' : Tm} : ∀ {cs}, Fix T T' cs → Fix T' T'' cs → Fix T T'' cs
  | [], _, _ => trivial
  | c :: cs, h, h' => ⟨h'.1.trans h.1, h.2.trans h'.2⟩
section
variable {C : CallRel} {ks : List Fr} {Q : XE → Tm → Heap → Prop} {T : Tm} {H : Heap}
theorem G_forF {a : X} (cs : List Nat) (n : Nat) (I : Nat → Tm → Heap → Prop) (i0 : Nat) (hi : i0 ≤ n) (h0 : I i0 T H) (hs : ∀ i T1 H1, i ≤ n → Fix T T1 cs → I i T1 H1 → G C a (.inv (fun T' H' => i < n ∧ Fix T1 T' cs ∧ I (i + 1) T' H') :: ks) Q T1 H1) : G C (.loop a) ks Q T H := by
  refine G_for n (fun i T1 H1 => Fix T T1 cs ∧ I i T1 H1) i0 hi ⟨Fix.refl _ _, h0⟩ ?_
  rintro i T1 H1 hi1 ⟨f1, i1⟩
  refine W.imp (fun _ _ _ _ _ h => h) a (fun e T' H' h3 => ?_) (hs i T1 H1 hi1 f1 i1)
  cases e with
  | nrm =>
    obtain ⟨h4, h5, h6⟩ := h3
    exact ⟨h4, f1.trans h5, h6⟩
  | ex i => exact h3
  | rt => exact h3
theorem G_loopF {a : X} (cs : List Nat) (k : Nat) (I : Nat → Tm → Heap → Prop) (h0 : I k T H) (hs : ∀ k T1 H1, Fix T T1 cs → I k T1 H1 → G C a (.inv (fun T' H' => ∃ j, j < k ∧ Fix T1 T' cs ∧ I j T' H') :: ks) Q T1 H1) : G C (.loop a) ks Q T H := by
  refine G_loop (fun k T1 H1 => Fix T T1 cs ∧ I k T1 H1) k ⟨Fix.refl _ _, h0⟩ ?_
  rintro k T1 H1 ⟨f1, i1⟩
  refine W.imp (fun _ _ _ _ _ h => h) a (fun e T' H' h3 => ?_) (hs k T1 H1 f1 i1)
  cases e with
  | nrm =>
    obtain ⟨j, h4, h5, h6⟩ := h3
    exact ⟨j, h4, f1.trans h5, h6⟩
  | ex i => exact h3
  | rt => exact h3
end
theorem GO_call_eq {P : Program} {d : Option Nat} {f : FuncId} {args : List XArg} {vs : List Value} {os : List XO} {ks : List Fr} {Q : XE → Tm → Heap → Prop} {T : Tm} {H : Heap} (e : args.map (ev T) = vs) (h : Run P f vs H fun v H' => GO (CR P) os ks Q (put T d v) H') : GO (CR P) (⟨d, .call f args, none⟩ :: os) ks Q T H := by
  subst e
  exact GO_call h
theorem GD_call_eq {P : Program} {pre : List (List Nat)} {ix : Nat} {tr : List Tr} {d : Option Nat} {f : FuncId} {args : List XArg} {vs : List Value} {os : List XO} {ks : List Fr} {Q : XE → Tm → Heap → Prop} {T : Tm} {H : Heap} (e : args.map (ev T) = vs) (h : Run P f vs H fun v H' => GD (CR P) pre (ix + 1) os (.E ix H H' :: tr) ks Q (put T d v) H') : GD (CR P) pre ix (⟨d, .call f args, none⟩ :: os) tr ks Q T H := by
  subst e
  exact GD_call h
/-! ### Ways that meet: what is to come is shown once -/
section
variable {C : CallRel} {ks : List Fr} {Q : XE → Tm → Heap → Prop} {T : Tm} {H : Heap}
theorem G_fix (cs : List Nat) {a : X} (h : ∀ T', Fix T T' cs → G C a ks Q T' H) : G C a ks Q T H := h T (Fix.refl _ _)
theorem GO_fix (cs : List Nat) {os : List XO} (h : ∀ T', Fix T T' cs → GO C os ks Q T' H) : GO C os ks Q T H := h T (Fix.refl _ _)
theorem cK_fix (cs : List Nat) {v : Value} {a b : X} (h : ∀ T', Fix T T' cs → cK C v a b ks Q T' H) : cK C v a b ks Q T H := h T (Fix.refl _ _)
theorem kont_cut {I : Tm → Heap → Prop} {rest : X} (h2 : ∀ T' H', I T' H' → G C rest ks Q T' H') : ∀ (e : XE) (T : Tm) (H : Heap), kont C Q (.inv I :: ks) e T H → kont C Q (.seq rest :: ks) e T H := by
  intro e T H h
  cases e with
  | nrm => exact h2 _ _ h
  | ex i => exact h
  | rt => exact h
theorem G_cut {a rest : X} (I : Tm → Heap → Prop) (h1 : G C a (.inv I :: ks) Q T H) (h2 : ∀ T' H', I T' H' → G C rest ks Q T' H') : G C a (.seq rest :: ks) Q T H :=
  W.imp (fun _ _ _ _ _ h => h) a (kont_cut h2) h1
theorem cK_cut {v : Value} {a b rest : X} (I : Tm → Heap → Prop) (h1 : cK C v a b (.inv I :: ks) Q T H) (h2 : ∀ T' H', I T' H' → G C rest ks Q T' H') : cK C v a b (.seq rest :: ks) Q T H := by
  cases v with
  | bool t =>
    cases t with
    | true => rw [Zah] at h1 ⊢; exact G_cut I h1 h2
    | false => rw [Zai] at h1 ⊢; exact G_cut I h1 h2
  | _ => exact h1.elim
theorem GO_cut {os : List XO} {rest : X} (I : Tm → Heap → Prop) (h1 : GO C os (.inv I :: ks) Q T H) (h2 : ∀ T' H', I T' H' → G C rest ks Q T' H') : GO C os (.seq rest :: ks) Q T H :=
  Wops.imp (fun _ _ _ _ _ h => h) (fun T' H' h => kont_cut h2 .nrm T' H' h) h1
end
section
variable {α : Type} {r : Rep α} {H H1 : Heap} {v : Value} {xs : List α} {i sz : Nat}
theorem take_snoc' {α : Type} (l : List α) {i : Nat} (h : i < l.length) : l.take (i + 1) = l.take i ++ [l[i]] := by
  rw [List.take_add_one]
  simp [List.getElem?_eq_getElem h]
theorem take_snoc {α : Type} (l : List α) (d : α) {i : Nat} (h : i < l.length) : l.take (i + 1) = l.take i ++ [l.getD i d] := by
  rw [List.take_add_one]
  simp [List.getElem?_eq_getElem h, List.getD]
theorem getD_get {α : Type} (l : List α) (d : α) {i : Nat} (h : i < l.length) : l.getD i d = l[i] := by simp [List.getD, List.getElem?_eq_getElem h]
theorem slc_sl (hz : r.sz = sz) (h : (rSlc r).rd H [v] xs) : ∃ cs, Sl H v sz xs.length cs := by
  obtain ⟨w, rows, e, h1, _⟩ := h
  obtain rfl : v = w := by simpa using e
  exact ⟨_, by rw [← hz]; exact h1⟩
theorem slc_idx (hz : r.sz = sz) (h : (rSlc r).rd H [v] xs) (hi : i < xs.length) {k : IntKind} : vidx H1 sz v (.int k (i : Int)) = some (adr v i sz 0, H1) := by
  obtain ⟨cs, h1⟩ := slc_sl hz h
  exact h1.idx hi
theorem slc_fad {o off : Nat} (hz : r.sz = sz) (h : (rSlc r).rd H [v] xs) (hi : i < xs.length) : vfad H1 off (adr v i sz o) = some (adr v i sz (o + off), H1) := by
  obtain ⟨cs, h1⟩ := slc_sl hz h
  exact h1.fad hi
theorem slc_trL {ix o : Nat} (hz : r.sz = sz) (h : (rSlc r).rd H [v] xs) (hi : i < xs.length) : trL ix (adr v i sz o) = [.L ix (blk v)] := by
  obtain ⟨cs, h1⟩ := slc_sl hz h
  exact h1.trL hi
theorem slc_blk (h : (rSlc r).rd H [v] xs) (hi : i < xs.length) : blk v < H.nxt := by
  obtain ⟨cs, h1⟩ := slc_sl rfl h
  exact h1.blk_lt hi
/-- An element of a slice. -/
theorem slc_el (hz : r.sz = sz) (h0 : 0 < sz) (h : (rSlc r).rd H [v] xs) (hi : i < xs.length) : ∃ row, r.rd H row xs[i] ∧ row.length = sz ∧ vldN H sz (adr v i sz 0) = some (.agg row.toArray, H) ∧ ∀ o c, row[o]? = some c → vld1 H (adr v i sz o) = some (c, H) := by
  obtain ⟨w, rows, e, h1, hr⟩ := h
  obtain rfl : v = w := by simpa using e
  obtain ⟨row, h2, h3⟩ := rows_get hr hi
  have hrow := flat_row hr.sz h2
  rw [hz] at hrow h1
  have hl : row.length = sz := by rw [r.len h3, hz]
  refine ⟨row, h3, hl, ?_, fun o c hc => ?_⟩
  · have := Sl.ldN (o := 0) (m := sz) h1 hi h0 (by omega)
    rwa [Nat.add_zero, hrow] at this
  · refine Sl.ld h1 hi ?_
    have ho := (List.getElem?_eq_some_iff.1 hc).1
    exact row_get hrow (by omega) hc
theorem ints_of {H : Heap} {v : Value} {xs : List Int} (h : (rSlc rInt).rd H [v] xs) : Ints H v xs := by
  obtain ⟨w, e, h1⟩ := leaf_rd h
  obtain rfl : v = w := by simpa using e
  exact h1
abbrev Bts := IntsK .u8
theorem bts_of {H : Heap} {v : Value} {xs : List Int} (h : (rSlc rByte).rd H [v] xs) : Bts H v xs := by
  obtain ⟨w, e, h1⟩ := leaf_rd h
  obtain rfl : v = w := by simpa using e
  exact h1
theorem of_ints {H : Heap} {v : Value} {xs : List Int} (h : Ints H v xs) : (rSlc rInt).rd H [v] xs := leaf_rd' h
theorem of_bts {H : Heap} {v : Value} {xs : List Int} (h : Bts H v xs) : (rSlc rByte).rd H [v] xs := leaf_rd' h
theorem dec_iff {p : Prop} [Decidable p] {b : Bool} (h : p ↔ b = true) : decide p = b := by
  cases b <;> simp_all
end
theorem GD_app {C : CallRel} {pre : List (List Nat)} {ix : Nat} {d : Option Nat} {os : List XO} {tr : List Tr} {ks : List Fr} {Q : XE → Tm → Heap → Prop} {T : Tm} {H : Heap} {sz bytes : Nat} {s x : XArg} : GD C pre ix (⟨d, (.app sz bytes s x), none⟩ :: os) tr ks Q T H = dK C pre ix d (.app sz bytes s x) os tr ks Q T H (vapp H sz bytes (ev T s) (ev T x)) := by rw [GD_op rfl, step_app]
/-! ### New slices of numbers -/
def fZ (k : IntKind) (z : Int) : List Value := [.int k z]
theorem fZ_len (k : IntKind) (z : Int) : (fZ k z).length = 1 := rfl
theorem fcZ (k : IntKind) (xs : List Int) : fcells (fZ k) xs = xs.map (Value.int k) := by
  induction xs with
  | nil => rfl
  | cons x xs ih => rw [fcells_cons, ih]; rfl
abbrev NewI := NewF (fZ .i64) 1
abbrev NewB := NewF (fZ .u8) 1
theorem NewF.intsK {k : IntKind} {H H' : Heap} {v : Value} {xs : List Int} (h : NewF (fZ k) 1 H H' v xs) : IntsK k H' v xs := by
  have := h.sl (fZ_len k)
  rwa [fcZ] at this
theorem IntsK.slF {k : IntKind} {H : Heap} {v : Value} {xs : List Int} (h : IntsK k H v xs) : Sl H v 1 xs.length (fcells (fZ k) xs) := by rw [fcZ]; exact h
theorem tot_len {α : Type} {r : Rep α} {xs : List α} {m : Nat} (h : (rSlc r).tot xs ≤ m) : xs.length ≤ m := Nat.le_trans (Nat.le_add_right _ _) h
def OwnS {α : Type} (r : Rep α) (H H' : Heap) (v : Value) (ys : List α) : Prop := ∃ F, (rSlc r).own H' [v] ys F ∧ Fresh H H' F
theorem NewF.ownI {H H' : Heap} {v : Value} {xs : List Int} (h : NewI H H' v xs) : OwnS rInt H H' v xs := by
  obtain ⟨p, h1, h2, rfl, h4⟩ := h
  rw [fcZ] at h4
  exact ⟨[p], leaf_own0 h2 h4, by simp, by intro i hi; simp at hi; omega⟩
theorem NewF.ownB {H H' : Heap} {v : Value} {xs : List Int} (h : NewB H H' v xs) : OwnS rByte H H' v xs := by
  obtain ⟨p, h1, h2, rfl, h4⟩ := h
  rw [fcZ] at h4
  exact ⟨[p], leaf_own0 h2 h4, by simp, by intro i hi; simp at hi; omega⟩
theorem own_nil {α : Type} {r : Rep α} {H H' : Heap} : OwnS r H H' (.slice none 0 0) [] := ⟨[], .inl ⟨rfl, rfl, rfl⟩, by simp, by simp⟩
theorem OwnS.rd {α : Type} {r : Rep α} {H H' : Heap} {v : Value} {ys : List α} (h : OwnS r H H' v ys) : (rSlc r).rd H' [v] ys := by
  obtain ⟨F, h, _⟩ := h
  exact (rSlc r).ownrd h
theorem OwnS.keep {α : Type} {r : Rep α} {H H' H2 : Heap} {v : Value} {ys : List α} (h : OwnS r H H' v ys) (k : Keep H' H2) : OwnS r H H2 v ys := by
  obtain ⟨F, h, f1, f2⟩ := h
  exact ⟨F, (rSlc r).ownKeep h k, f1, fun i hi => by have := f2 i hi; have := k.nxt; omega⟩
theorem OwnS.base {α : Type} {r : Rep α} {H H' H0 : Heap} {v : Value} {ys : List α} (h : OwnS r H H' v ys) (hn : H0.nxt ≤ H.nxt) : OwnS r H0 H' v ys := by
  obtain ⟨F, h, f1, f2⟩ := h
  exact ⟨F, h, f1, fun i hi => by have := f2 i hi; omega⟩
theorem NewF.base {α : Type} {f : α → List Value} {n : Nat} {H H' H0 : Heap} {v : Value} {ys : List α} (h : NewF f n H H' v ys) (hn : H0.nxt ≤ H.nxt) : NewF f n H0 H' v ys := by
  obtain ⟨p, h1, h2⟩ := h
  exact ⟨p, by omega, h2⟩
end Go.Proofs.Ytkadelndmaegdaa.AX
