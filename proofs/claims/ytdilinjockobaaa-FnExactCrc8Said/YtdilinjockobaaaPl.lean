/- Plain laws on loops told round by round, without Go: no condition but those each lemma names. -/
import Derived.Test.YtdilinjockobaaaWMore
namespace Go.Proofs.Ytdilinjockobaaa.Pl
open Go.RowKit Go.Proofs.YtdilinjockobaaaW.PrintWords Go.Proofs.YtdilinjockobaaaW.PrintLast

theorem Ev.pos {α : Type} {c : Prop} [Decidable c] {A B : Nat → Option α} {r : α} (h : c) (H : Ev A r) : Ev (fun k => if c then A k else B k) r := by
  obtain ⟨K, H⟩ := H
  exact ⟨K, fun k hk => (if_pos h).trans (H k hk)⟩
theorem Ev.neg {α : Type} {c : Prop} [Decidable c] {A B : Nat → Option α} {r : α} (h : ¬ c) (H : Ev B r) : Ev (fun k => if c then A k else B k) r := by
  obtain ⟨K, H⟩ := H
  exact ⟨K, fun k hk => (if_neg h).trans (H k hk)⟩
theorem Ev.det {α : Type} {g : Nat → Option α} {r s : α} (h : Ev g r) (h' : Ev g s) : r = s := by
  obtain ⟨K, h⟩ := h
  obtain ⟨K', h'⟩ := h'
  have h1 := h (max K K') (by omega)
  rw [h' (max K K') (by omega)] at h1
  exact (Option.some.inj h1).symm
theorem Ev.is {α : Type} {g : Nat → Option α} {r s : α} (h : Ev g r) (e : r = s) : Ev g s := e ▸ h
theorem Ev.nowIs {α : Type} {r s : α} (e : r = s) : Ev (fun _ => some r) s := e ▸ Ev.now r
/-- A value that is there at once, handed on. -/
theorem Ev.some_bind {α β : Type} {f : Nat → α → Option β} {a : α} {r : β} (k : Ev (fun n => f n a) r) : Ev (fun n => (some a).bind (f n)) r := k
theorem Ev.bindE {α β : Type} {x : Option α} {f : Nat → α → Option β} {a : α} {r : β} (h : x = some a) (k : Ev (fun n => f n a) r) : Ev (fun n => x.bind (f n)) r := by
  subst h; exact k
/-- Downward along a counter. -/
theorem down {P : Nat → Prop} (n : Nat) (hn : P n) (h : ∀ i, i < n → P (i + 1) → P i) : ∀ i, i ≤ n → P i := by
  intro i hi
  obtain ⟨d, rfl⟩ : ∃ d, n = i + d := ⟨n - i, by omega⟩
  clear hi
  induction d generalizing i with
  | zero => exact hn
  | succ d ih => exact h i (by omega) (ih (i + 1) (by rw [show i + 1 + d = i + (d + 1) by omega]; exact hn) (fun j hj => h j (by omega)))
theorem down0 {P : Nat → Prop} (n : Nat) (hn : P n) (h : ∀ i, i < n → P (i + 1) → P i) : P 0 := down n hn h 0 (Nat.zero_le _)
theorem w1 {i : Int} (h0 : -9223372036854775808 ≤ i) (h : i < 9223372036854775807) : wrap64 (i + 1) = i + 1 := by
  unfold wrap64; omega
theorem wid {i : Int} (h0 : -9223372036854775808 ≤ i) (h : i < 9223372036854775808) : wrap64 i = i := by
  unfold wrap64; omega
theorem wbd (i : Int) : -9223372036854775808 ≤ wrap64 i ∧ wrap64 i < 9223372036854775808 := by
  unfold wrap64; omega
theorem wf64 {x : Int} (h : (Lit.int .i64 x).wf = true) : -9223372036854775808 ≤ x ∧ x < 9223372036854775808 := by
  simp only [Lit.wf, IntKind.min, IntKind.max, IntKind.signed, IntKind.bits, Bool.and_eq_true, decide_eq_true_eq, if_true] at h
  omega
theorem wfu8 {x : Int} (h : (Lit.int .u8 x).wf = true) : 0 ≤ x ∧ x < 256 := by
  simp [Lit.wf, IntKind.min, IntKind.max, IntKind.signed, IntKind.bits] at h
  omega
theorem rd_cast (l : List Int) (i : Nat) : rd l (i : Int) = l.getD i 0 := rfl
theorem rd_lt (l : List Int) (i : Nat) (h : i < l.length) : rd l (i : Int) = l[i] := by
  simp [rd, List.getD_eq_getElem?_getD, List.getElem?_eq_getElem h]
theorem rdOf_lt {α : Type} (d : α) (l : List α) (i : Nat) (h : i < l.length) : rdOf d l (i : Int) = l[i] := by
  simp [rdOf, List.getD_eq_getElem?_getD, List.getElem?_eq_getElem h]

/-- A row that is copied into a new one, element by element. -/
theorem copy_loop {α β : Type} (F : Nat → List α → List β → Int → Option (List β)) (g : List α → Int → β) (l : List α) (d : β) (hl : l.length ≤ 9007199254740992)
    (hs : ∀ k x i, F (k + 1) l x i = if i < (l.length : Int) then (if 0 ≤ i then (if i < (x.length : Int) then F k l (x.set i.toNat (g l i)) (wrap64 (i + 1)) else none) else none) else some x) :
    Ev (fun k => F k l (List.replicate ((l.length : Int)).toNat d) 0) ((List.range l.length).map fun i => g l (i : Nat)) := by
  have H : ∀ i, i ≤ l.length → Ev (fun k => F k l ((List.range i).map (fun i => g l (i : Nat)) ++ List.replicate (l.length - i) d) (i : Nat)) ((List.range l.length).map fun i => g l (i : Nat)) := by
    refine down l.length ?_ ?_
    · refine Ev.step (fun k => hs k _ _) ?_
      refine Ev.neg (by omega) ?_
      exact Ev.nowIs (by simp)
    · intro i hi ih
      refine Ev.step (fun k => hs k _ _) ?_
      refine Ev.pos (by omega) (Ev.pos (by omega) (Ev.pos (by simp; omega) ?_))
      rw [w1 (by omega) (by omega)]
      refine Ev.congr (fun k => ?_) ih
      congr 1
      obtain ⟨m, hm⟩ : ∃ m, l.length - i = m + 1 := ⟨l.length - i - 1, by omega⟩
      rw [hm, List.replicate_succ, List.range_succ, List.map_append, Int.toNat_natCast, show l.length - (i + 1) = m by omega]
      rw [List.set_append_right _ _ (by simp)]
      simp
  simpa using H 0 (Nat.zero_le _)
theorem copy_int (l : List Int) : (List.range l.length).map (fun i => rd l ((i : Nat) : Int)) = l := by
  apply List.ext_getElem
  · simp
  · intro i h1 h2
    simp [rd_lt l i h2]
theorem copy_of {α : Type} (d : α) (l : List α) : (List.range l.length).map (fun i => rdOf d l ((i : Nat) : Int)) = l := by
  apply List.ext_getElem
  · simp
  · intro i h1 h2
    simp [rdOf_lt d l i h2]
/-- The marked row: its numbers are m, m + 1, .. -/
def marks (m : Int) (n : Nat) : List Int := (List.range n).map fun (i : Nat) => m + (i : Int)
theorem marks_length (m : Int) (n : Nat) : (marks m n).length = n := by simp [marks]
theorem rd_marks (m : Int) (n i : Nat) (h : i < n) : rd (marks m n) (i : Int) = m + i := by
  rw [rd_lt _ _ (by simpa [marks] using h)]; simp [marks]
theorem mark_loop (F : Nat → List Int → Int → Int → Option (Int × List Int)) (l : List Int) (m : Int) (hm : 0 ≤ m) (hm2 : m ≤ 4503599627370496) (hl : l.length ≤ 4503599627370496)
    (hs : ∀ k x y i, F (k + 1) x y i = if i < (x.length : Int) then (if 0 ≤ i then F k (x.set i.toNat y) (wrap64 (y + 1)) (wrap64 (i + 1)) else none) else some (y, x)) :
    Ev (fun k => F k l m 0) (m + l.length, marks m l.length) := by
  have H : ∀ i, i ≤ l.length → Ev (fun k => F k (marks m i ++ l.drop i) (m + (i : Nat)) (i : Nat)) (m + l.length, marks m l.length) := by
    refine down l.length ?_ ?_
    · refine Ev.step (fun k => hs k _ _ _) ?_
      refine Ev.neg (by simp [marks_length]) ?_
      exact Ev.nowIs (by simp)
    · intro i hi ih
      refine Ev.step (fun k => hs k _ _ _) ?_
      refine Ev.pos (by simp [marks_length]; omega) (Ev.pos (by omega) ?_)
      rw [w1 (by omega) (by omega), w1 (by omega) (by omega)]
      refine Ev.congr (fun k => ?_) ih
      congr 1
      · rw [Int.toNat_natCast, List.set_append_right _ _ (by simp [marks_length]), marks_length, Nat.sub_self, List.drop_eq_getElem_cons hi, List.set_cons_zero]
        simp [marks, List.range_succ]
      · omega
  simpa [marks] using H 0 (Nat.zero_le _)
theorem held_loop (F : Nat → List Int → Int → Int → Option Int) (m : Int) (n : Nat) (hm : 0 ≤ m) (hm2 : m ≤ 4503599627370496) (hl : n ≤ 4503599627370496)
    (hs : ∀ k x y i, F (k + 1) x y i = if i < (x.length : Int) then (if 0 ≤ i then (if (rd x i) = y then F k x (wrap64 (y + 1)) (wrap64 (i + 1)) else some (-1)) else none) else some y) :
    Ev (fun k => F k (marks m n) m 0) (m + n) := by
  have H : ∀ i, i ≤ n → Ev (fun k => F k (marks m n) (m + (i : Nat)) (i : Nat)) (m + n) := by
    refine down n ?_ ?_
    · refine Ev.step (fun k => hs k _ _ _) ?_
      refine Ev.neg (by simp [marks_length]) ?_
      exact Ev.nowIs rfl
    · intro i hi ih
      refine Ev.step (fun k => hs k _ _ _) ?_
      refine Ev.pos (by simp [marks_length]; omega) (Ev.pos (by omega) (Ev.pos (rd_marks m n i hi) ?_))
      rw [w1 (by omega) (by omega), w1 (by omega) (by omega)]
      refine Ev.congr (fun k => ?_) ih
      congr 1
      omega
  simpa using H 0 (Nat.zero_le _)
/-- A row is the same as itself. -/
theorem eq_loop {α : Type} (F : Nat → List α → List α → Int → Option Bool) (g : List α → Int → α) [DecidableEq α] (l : List α) (hl : l.length ≤ 4503599627370496)
    (hs : ∀ k i, F (k + 1) l l i = if i < (l.length : Int) then (if 0 ≤ i then (if i < (l.length : Int) then (if g l i = g l i then F k l l (wrap64 (i + 1)) else some false) else none) else none) else some true) :
    Ev (fun k => F k l l 0) true := by
  have H : ∀ i, i ≤ l.length → Ev (fun k => F k l l (i : Nat)) true := by
    refine down l.length ?_ ?_
    · refine Ev.step (fun k => hs k _) ?_
      exact Ev.neg (by omega) (Ev.now _)
    · intro i hi ih
      refine Ev.step (fun k => hs k _) ?_
      refine Ev.pos (by omega) (Ev.pos (by omega) (Ev.pos (by omega) (Ev.pos rfl ?_)))
      rw [w1 (by omega) (by omega)]
      exact ih
  exact H 0 (Nat.zero_le _)
end Go.Proofs.Ytdilinjockobaaa.Pl
