/- Trains whose bookings are right: plain. No condition beyond each law's own; of the program: the functions' forms. -/
import Derived.Test.YtkadelndmaegdaaRdk
import Derived.Test.YtkadelndmaegdaaBse
import Derived.Test.YtkadelndmaegdaaAXzf
namespace Go.Proofs.Ytkadelndmaegdaa.AX
open Go
set_option maxRecDepth 10000
set_option maxHeartbeats 4000000
set_option linter.unusedSimpArgs false
set_option linter.unusedVariables false
theorem slc_elK {α : Type} {r : Rep α} {B : Heap} {v : Value} {xs : List α} {i sz : Nat} (hz : r.sz = sz) (h0 : 0 < sz) (h : (rSlc r).rd B [v] xs) (hi : i < xs.length) : ∃ row, r.rd B row xs[i] ∧ row.length = sz ∧ ∀ H, Keep B H → vldN H sz (adr v i sz 0) = some (.agg row.toArray, H) ∧ ∀ o c, row[o]? = some c → vld1 H (adr v i sz o) = some (c, H) := by
  obtain ⟨w, rows, e, h1, hr⟩ := h
  obtain rfl : v = w := by simpa using e
  obtain ⟨row, h2, h3⟩ := rows_get hr hi
  have hrow := flat_row hr.sz h2
  rw [hz] at hrow h1
  have hl : row.length = sz := by rw [r.len h3, hz]
  refine ⟨row, h3, hl, fun H k => ⟨?_, fun o c hc => ?_⟩⟩
  · have := Sl.ldN (o := 0) (m := sz) (h1.keep k) hi h0 (by omega)
    rwa [Nat.add_zero, hrow] at this
  · refine Sl.ld (h1.keep k) hi ?_
    have ho := (List.getElem?_eq_some_iff.1 hc).1
    exact row_get hrow (by omega) hc
abbrev Bk := Int × Int × Int × Int
def bk (l : List Bk) (i : Nat) : Bk := l.getD i (0, 0, 0, 0)
def ovl (a b : Bk) : Bool := decide (a.2.1 = b.2.1) && (decide (a.2.2.1 < b.2.2.2) && decide (b.2.2.1 < a.2.2.2))
def bfo (l : List Bk) (i : Nat) : Int := if i = 0 then 0 else (bk l (i - 1)).1
def rideB (P : Int) (a b : Int) : Bool := decide (0 ≤ a) && (decide (a < b) && decide (b ≤ P))
def rowA (S P : Int) (l : List Bk) (i : Nat) : Bool := decide (bfo l i < (bk l i).1) && (inR 0 (S - 1) (bk l i).2.1 && rideB P (bk l i).2.2.1 (bk l i).2.2.2)
def rowT (S P : Int) (l : List Bk) (i : Nat) : Bool := rowA S P l i && allTo i (fun k => !ovl (bk l k) (bk l i))
def trainOk (S P : Int) (l : List Bk) : Bool := inR 1 60 S && (inR 1 11 P && (decide (l.length ≤ 200) && allTo l.length (rowT S P l)))
theorem rideB_iff {P a b : Int} : rideB P a b = true ↔ 0 ≤ a ∧ a < b ∧ b ≤ P := by simp [rideB]
theorem rowA_iff {S P : Int} {l : List Bk} {i : Nat} : rowA S P l i = true ↔ bfo l i < (bk l i).1 ∧ (0 ≤ (bk l i).2.1 ∧ (bk l i).2.1 ≤ S - 1) ∧ 0 ≤ (bk l i).2.2.1 ∧ (bk l i).2.2.1 < (bk l i).2.2.2 ∧ (bk l i).2.2.2 ≤ P := by
  rw [rowA, Bool.and_eq_true, Bool.and_eq_true, decide_eq_true_eq, inR_iff, rideB_iff]
theorem bfo_pos {S P : Int} {l : List Bk} {i : Nat} (h : ∀ j, j < i → rowT S P l j = true) : 0 ≤ bfo l i := by
  induction i with
  | zero => simp [bfo]
  | succ i ih =>
    have h1 := ih (fun j hj => h j (by omega))
    have h2 := h i (by omega)
    rw [rowT, Bool.and_eq_true] at h2
    have h3 := (rowA_iff.1 h2.1).1
    simp only [bfo, Nat.add_one_ne_zero, if_false, Nat.add_sub_cancel]
    omega
theorem rowT_bad {S P : Int} {l : List Bk} {i : Nat} (hi : i < l.length) (h : rowA S P l i = false) : trainOk S P l = false := by
  rw [trainOk, allTo_bad hi (by rw [rowT, h, Bool.false_and]), Bool.and_false, Bool.and_false, Bool.and_false]
theorem rowT_ovl {S P : Int} {l : List Bk} {i k : Nat} (hi : i < l.length) (hk : k < i) (h : ovl (bk l k) (bk l i) = true) : trainOk S P l = false := by
  rw [trainOk, allTo_bad hi (by rw [rowT, allTo_bad hk (by rw [h]; rfl), Bool.and_false]), Bool.and_false, Bool.and_false, Bool.and_false]
theorem bk_elK {B : Heap} {v : Value} {l : List Bk} {i : Nat} (h : (rSlc rBooking).rd B [v] l) (hi : i < l.length) : ∀ H, Keep B H → vldN H 4 (adr v i 4 0) = some (.agg #[.int .i64 (bk l i).1, .int .i64 (bk l i).2.1, .int .i64 (bk l i).2.2.1, .int .i64 (bk l i).2.2.2], H) ∧ vld1 H (adr v i 4 0) = some (.int .i64 (bk l i).1, H) := by
  obtain ⟨row, h1, h2, h3⟩ := slc_elK (sz := 4) rfl (by omega) h hi
  have e : row = [.int .i64 l[i].1, .int .i64 l[i].2.1, .int .i64 l[i].2.2.1, .int .i64 l[i].2.2.2] := h1
  subst e
  intro H k
  rw [bk, getD_get _ _ hi]
  exact ⟨(h3 H k).1, (h3 H k).2 0 _ rfl⟩
def arC (g : Nat → Bool) : List Value := (List.range 660).map fun j => Value.bool (g j)
theorem arC_len {g : Nat → Bool} : (arC g).length = 660 := by simp [arC]
theorem arC_get {g : Nat → Bool} {i : Nat} (hi : i < 660) : (arC g)[i]? = some (.bool (g i)) := by
  rw [arC, List.getElem?_map, List.getElem?_range hi]
  rfl
theorem arC_set {g : Nat → Bool} {i : Nat} {b : Bool} (hi : i < 660) : (arC g).set i (.bool b) = arC (fun j => if j = i then b else g j) := by
  apply List.ext_getElem?
  intro j
  by_cases hj : j < 660
  · rw [arC_get hj]
    by_cases e : i = j
    · subst e
      rw [List.getElem?_set_self (by rw [arC_len]; exact hi), if_pos rfl]
    · rw [List.getElem?_set_ne e, arC_get hj, if_neg (fun h => e h.symm)]
  · rw [List.getElem?_eq_none (by rw [List.length_set, arC_len]; omega), List.getElem?_eq_none (by rw [arC_len]; omega)]
theorem arC_zero : List.replicate 660 (Value.bool false) = arC (fun _ => false) := by
  apply List.ext_getElem?
  intro j
  by_cases hj : j < 660
  · rw [arC_get hj, List.getElem?_replicate, if_pos hj]
  · rw [List.getElem?_eq_none (by rw [List.length_replicate]; omega), List.getElem?_eq_none (by rw [arC_len]; omega)]
def cov (b : Bk) (j : Nat) : Prop := b.2.1 * 11 + b.2.2.1 ≤ (j : Int) ∧ (j : Int) < b.2.1 * 11 + b.2.2.2
def Hd (l : List Bk) (i : Nat) (g : Nat → Bool) : Prop := ∀ j, g j = true ↔ ∃ q, q < i ∧ cov (bk l q) j
def nw (b : Bk) (n j : Nat) : Prop := b.2.1 * 11 + b.2.2.1 ≤ (j : Int) ∧ (j : Int) < b.2.1 * 11 + b.2.2.1 + n
structure Hd2 (l : List Bk) (i n : Nat) (g : Nat → Bool) : Prop where
  iff : ∀ j, g j = true ↔ (∃ q, q < i ∧ cov (bk l q) j) ∨ nw (bk l i) n j
  free : ∀ j q, nw (bk l i) n j → q < i → ¬ cov (bk l q) j
theorem Hd.two {l : List Bk} {i : Nat} {g : Nat → Bool} (h : Hd l i g) : Hd2 l i 0 g :=
  ⟨fun j => by rw [h j]; exact ⟨.inl, fun h => h.elim id fun h => by obtain ⟨a, b⟩ := h; omega⟩, fun j q h => by obtain ⟨a, b⟩ := h; omega⟩
theorem ovl_iff {a b : Bk} : ovl a b = true ↔ a.2.1 = b.2.1 ∧ a.2.2.1 < b.2.2.2 ∧ b.2.2.1 < a.2.2.2 := by
  simp [ovl]
theorem cov_ovl {S P : Int} {l : List Bk} {i q n j : Nat} (hP : P ≤ 11) (ha : rowA S P l q = true) (hb : rowA S P l i = true) (hc : cov (bk l q) j) (hn : nw (bk l i) n j) (hn2 : (bk l i).2.2.1 + n ≤ (bk l i).2.2.2) : ovl (bk l q) (bk l i) = true := by
  have a := (rowA_iff.1 ha).2
  have b := (rowA_iff.1 hb).2
  obtain ⟨c1, c2⟩ := hc
  obtain ⟨d1, d2⟩ := hn
  exact ovl_iff.2 (by omega)
theorem Hd2.hit {S P : Int} {l : List Bk} {i n j : Nat} {g : Nat → Bool} (h : Hd2 l i n g) (hP : P ≤ 11) (ha : ∀ q, q < i → rowA S P l q = true) (hb : rowA S P l i = true)
    (hj : (j : Int) = (bk l i).2.1 * 11 + (bk l i).2.2.1 + n) (hn : (bk l i).2.2.1 + n < (bk l i).2.2.2) (hg : g j = true) : ∃ q, q < i ∧ ovl (bk l q) (bk l i) = true := by
  rcases (h.iff j).1 hg with ⟨q, hq, hc⟩ | ⟨_, hc⟩
  · exact ⟨q, hq, cov_ovl (n := n + 1) hP (ha q hq) hb hc ⟨by omega, by omega⟩ (by omega)⟩
  · omega
theorem Hd2.step {l : List Bk} {i n j : Nat} {g : Nat → Bool} (h : Hd2 l i n g) (hj : (j : Int) = (bk l i).2.1 * 11 + (bk l i).2.2.1 + n) (hg : g j = false) : Hd2 l i (n + 1) (fun k => if k = j then true else g k) := by
  refine ⟨fun k => ?_, fun k q hk hq hc => ?_⟩
  · by_cases e : k = j
    · subst e
      rw [if_pos rfl]
      exact ⟨fun _ => .inr ⟨by omega, by omega⟩, fun _ => rfl⟩
    · rw [if_neg e, h.iff k]
      refine ⟨fun h1 => h1.imp id fun ⟨a, b⟩ => ⟨a, by omega⟩, fun h1 => h1.imp id fun ⟨a, b⟩ => ⟨a, by omega⟩⟩
  · by_cases e : k = j
    · subst e
      have := (h.iff k).2 (.inl ⟨q, hq, hc⟩)
      rw [hg] at this
      cases this
    · obtain ⟨a, b⟩ := hk
      exact h.free k q ⟨a, by omega⟩ hq hc
theorem Hd2.done {S P : Int} {l : List Bk} {i n : Nat} {g : Nat → Bool} (h : Hd2 l i n g) (hn : (bk l i).2.2.1 + n = (bk l i).2.2.2) : Hd l (i + 1) g := by
  intro j
  rw [h.iff j]
  refine ⟨fun h1 => ?_, fun ⟨q, hq, hc⟩ => ?_⟩
  · rcases h1 with ⟨q, hq, hc⟩ | ⟨a, b⟩
    · exact ⟨q, by omega, hc⟩
    · exact ⟨i, by omega, a, by omega⟩
  · by_cases e : q = i
    · subst e
      obtain ⟨a, b⟩ := hc
      exact .inr ⟨a, by omega⟩
    · exact .inl ⟨q, by omega, hc⟩
theorem Hd2.free' {S P : Int} {l : List Bk} {i n q : Nat} {g : Nat → Bool} (h : Hd2 l i n g) (hn : (bk l i).2.2.1 + n = (bk l i).2.2.2) (ha : rowA S P l q = true) (hb : rowA S P l i = true) (hq : q < i) : ovl (bk l q) (bk l i) = false := by
  rw [Bool.eq_false_iff]
  intro ho
  obtain ⟨o1, o2, o3⟩ := ovl_iff.1 ho
  have a := (rowA_iff.1 ha).2
  have b := (rowA_iff.1 hb).2
  by_cases z : (bk l q).2.2.1 ≤ (bk l i).2.2.1
  · exact h.free ((bk l i).2.1 * 11 + (bk l i).2.2.1).toNat q ⟨by omega, by omega⟩ hq ⟨by omega, by omega⟩
  · exact h.free ((bk l i).2.1 * 11 + (bk l q).2.2.1).toNat q ⟨by omega, by omega⟩ hq ⟨by omega, by omega⟩
theorem vaidx_ptr {H1 : Heap} {len sz p o : Nat} {k : IntKind} {z : Int} (h0 : 0 ≤ z) (h1 : z < len) : vaidx H1 len sz (ptr p o) (.int k z) = some (ptr p (o + z.toNat * sz), H1) := by
  have e : vaidx H1 len sz (ptr p o) (.int k z) = if 0 ≤ z ∧ z < len then some (.pointer (some ⟨p, o + z.toNat * sz, none⟩), H1) else none := rfl
  rw [e, if_pos ⟨h0, h1⟩]
  rfl
end Go.Proofs.Ytkadelndmaegdaa.AX
