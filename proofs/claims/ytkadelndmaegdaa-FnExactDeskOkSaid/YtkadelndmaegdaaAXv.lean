/- What arguments are, by their types. No condition beyond each law's own; nothing of the program. -/
import Derived.Test.YtkadelndmaegdaaAXu
namespace Go.Proofs.Ytkadelndmaegdaa.AX
open Go

section
variable {P : Program} {H : Heap} {n : Nat} {t : TypeId} {xs : List Value}
def isStruct (P : Program) (t : TypeId) : Bool := match P.underlying t with | some (.struct _) => true | _ => false
theorem good_args_nil {l : List Value} (h : GoodArgs P H [] l) : l = [] := by
  cases l with
  | nil => rfl
  | cons a l => exact h.elim
theorem good_args_cons {ts : List TypeId} {l : List Value} (h : GoodArgs P H (t :: ts) l) : ∃ a l', l = a :: l' ∧ GoodV P H t a ∧ GoodArgs P H ts l' := by
  cases l with
  | nil => exact h.elim
  | cons a l => exact ⟨a, l, rfl, h.1, h.2⟩
/-- A value of a struct type is the cells of one. -/
theorem goodV_agg {a : Value} (hs : isStruct P t = true) (h : GoodV P H t a) : ∃ l n, a = .agg l.toArray ∧ Good P H n t l := by
  obtain ⟨n, h⟩ := h
  unfold isStruct at hs
  split at hs
  · rename_i fs hu
    rw [hu] at h
    obtain ⟨ys, rfl, h⟩ := h
    exact ⟨ys.toList, n, by simp, h⟩
  · cases hs
theorem goodV_one {a : Value} (hs : isStruct P t = false) (h : GoodV P H t a) : ∃ n, Good P H n t [a] := by
  obtain ⟨n, h⟩ := h
  unfold isStruct at hs
  split at hs
  · cases hs
  · rename_i hu
    refine ⟨n, ?_⟩
    split at h
    · rename_i fs hu'
      exact absurd hu' (hu fs)
    · exact h
theorem good_int {k : IntKind} (hu : P.underlying t = some (.int k)) (h : Good P H n t xs) : ∃ z, xs = [.int k z] ∧ (Lit.int k z).wf = true := by
  cases n with
  | zero => exact h.elim
  | succ n => unfold Good at h; rw [hu] at h; exact h
theorem good_bool (hu : P.underlying t = some .bool) (h : Good P H n t xs) : ∃ z, xs = [.bool z] := by
  cases n with
  | zero => exact h.elim
  | succ n => unfold Good at h; rw [hu] at h; exact h
theorem good_flt {k : FloatKind} (hu : P.underlying t = some (.float k)) (h : Good P H n t xs) : ∃ z, xs = [.float k z] ∧ (Lit.float k z).wf = true := by
  cases n with
  | zero => exact h.elim
  | succ n => unfold Good at h; rw [hu] at h; exact h
theorem good_str (hu : P.underlying t = some .string) (h : Good P H n t xs) : ∃ s, xs = [.string s] ∧ s.size ≤ maxLen := by
  cases n with
  | zero => exact h.elim
  | succ n => unfold Good at h; rw [hu] at h; exact h
theorem good_slc {e : TypeId} {c : Nat} (hu : P.underlying t = some (.slice e)) (hc : P.cellsOf e = c) (h : Good P H n t xs) : ∃ (v : Value) (rows : List (List Value)) (m : Nat), xs = [v] ∧ Sl H v c rows.length rows.flatten ∧ rows.length ≤ maxLen ∧ ∀ r ∈ rows, r.length = c ∧ Good P H m e r := by
  cases n with
  | zero => exact h.elim
  | succ n =>
    unfold Good at h
    rw [hu] at h
    obtain ⟨v, rows, h1, h2, h3, h4⟩ := h
    rw [hc] at h2
    exact ⟨v, rows, n, h1, h2, h3, fun r hr => by rw [← hc]; exact h4 r hr⟩
def fieldOf (P : Program) (t : TypeId) (i : Nat) : Option (TypeId × Nat × Nat) := match P.underlying t with
  | some (.struct fs) => (fs[i]?).map fun f => (f.type, f.offset, P.cellsOf f.type)
  | _ => none
theorem good_field {i : Nat} {t' : TypeId} {o c : Nat} (hf : fieldOf P t i = some (t', o, c)) (h : Good P H n t xs) : ∃ m, Good P H m t' ((xs.drop o).take c) := by
  cases n with
  | zero => exact h.elim
  | succ n =>
    unfold Good at h
    unfold fieldOf at hf
    split at hf
    · rename_i fs hu
      rw [hu] at h
      simp only [Option.map_eq_some_iff, Prod.mk.injEq] at hf
      obtain ⟨f, hf, rfl, rfl, rfl⟩ := hf
      exact ⟨n, h.2 f (by rw [← Array.getElem?_toList] at hf; exact List.mem_of_getElem? hf)⟩
    · cases hf
theorem good_cells {c : Nat} (hs : isStruct P t = true) (hc : P.cellsOf t = c) (h : Good P H n t xs) : xs.length = c := by
  cases n with
  | zero => exact h.elim
  | succ n =>
    unfold Good at h
    unfold isStruct at hs
    split at hs
    · rename_i fs hu
      rw [hu] at h
      rw [← hc]
      exact h.1
    · cases hs
theorem wf64 {z : Int} (h : (Lit.int .i64 z).wf = true) : -9223372036854775808 ≤ z ∧ z ≤ 9223372036854775807 := by
  simp only [Lit.wf, IntKind.min, IntKind.max, Bool.and_eq_true] at h
  exact ⟨of_decide_eq_true h.1, of_decide_eq_true h.2⟩
theorem wf8 {z : Int} (h : (Lit.int .u8 z).wf = true) : 0 ≤ z ∧ z ≤ 255 := by
  simp only [Lit.wf, IntKind.min, IntKind.max, Bool.and_eq_true] at h
  exact ⟨of_decide_eq_true h.1, of_decide_eq_true h.2⟩
/-- A slice of plain numbers. -/
def IntsK (k : IntKind) (H : Heap) (v : Value) (xs : List Int) : Prop := Sl H v 1 xs.length (xs.map (Value.int k))
abbrev Ints := IntsK .i64
theorem IntsK.keep {k : IntKind} {H H' : Heap} {v : Value} {xs : List Int} (h : IntsK k H v xs) (kp : Keep H H') : IntsK k H' v xs := Sl.keep h kp
theorem good_ints {e : TypeId} {k : IntKind} (hu : P.underlying t = some (.slice e)) (he : P.underlying e = some (.int k)) (hc : P.cellsOf e = 1) (h : Good P H n t xs) : ∃ v l, xs = [v] ∧ IntsK k H v l ∧ l.length ≤ maxLen ∧ ∀ z ∈ l, (Lit.int k z).wf = true := by
  obtain ⟨v, rows, m, h1, h2, h3, h4⟩ := good_slc hu hc h
  have : ∀ rows : List (List Value), (∀ r ∈ rows, r.length = 1 ∧ Good P H m e r) → ∃ l : List Int, rows.flatten = l.map (Value.int k) ∧ l.length = rows.length ∧ ∀ z ∈ l, (Lit.int k z).wf = true := by
    intro rows
    induction rows with
    | nil => intro _; exact ⟨[], rfl, rfl, fun z hz => by cases hz⟩
    | cons r rows ih =>
      intro h
      obtain ⟨l, h5, h6, h7⟩ := ih (fun r hr => h r (by simp [hr]))
      obtain ⟨z, rfl, hz⟩ := good_int he (h r (by simp)).2
      refine ⟨z :: l, by simp [h5], by simp [h6], fun y hy => ?_⟩
      rcases List.mem_cons.1 hy with rfl | hy
      · exact hz
      · exact h7 y hy
  obtain ⟨l, h5, h6, h7⟩ := this rows h4
  exact ⟨v, l, h1, by unfold IntsK; rw [h6, ← h5]; exact h2, by rw [h6]; exact h3, h7⟩
end
end Go.Proofs.Ytkadelndmaegdaa.AX
