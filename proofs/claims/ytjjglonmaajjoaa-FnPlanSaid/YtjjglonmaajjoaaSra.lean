/- Rows of runs in memory, told by functions; swaps. No condition beyond each law's own; nothing of the program. -/
import Derived.Test.YtjjglonmaajjoaaRrun
import Derived.Test.YtjjglonmaajjoaaAXzg
import Derived.Test.YtjjglonmaajjoaaSrp
namespace Go.Proofs.Ytjjglonmaajjoaa.AX
open Go
set_option maxRecDepth 10000
set_option linter.unusedSimpArgs false
set_option linter.unusedVariables false
abbrev Rnn := Int × Int × Int × Int
def tabX {X : Type} (f : Nat → X) (N : Nat) : List X := (List.range N).map f
theorem tabX_len {X : Type} (f : Nat → X) (N : Nat) : (tabX f N).length = N := by simp [tabX]
theorem tabX_get {X : Type} {f : Nat → X} {N j : Nat} (h : j < N) : (tabX f N)[j]? = some (f j) := by
  rw [tabX, List.getElem?_map, List.getElem?_range h]
  rfl
theorem tabX_set {X : Type} (f : Nat → X) (N i : Nat) (y : X) : (tabX f N).set i y = tabX (fun k => if k = i then y else f k) N := by
  refine List.ext_getElem? fun j => ?_
  rw [List.getElem?_set]
  by_cases h : j < N
  · rw [tabX_get h, tabX_get h, tabX_len]
    by_cases e : i = j
    · subst e; rw [if_pos rfl, if_pos h, if_pos rfl]
    · rw [if_neg e, if_neg (fun h => e h.symm)]
  · have e1 : (tabX f N)[j]? = none := List.getElem?_eq_none (by rw [tabX_len]; omega)
    have e2 : (tabX (fun k => if k = i then y else f k) N)[j]? = none := List.getElem?_eq_none (by rw [tabX_len]; omega)
    rw [e1, e2, tabX_len]
    by_cases e : i = j
    · rw [if_pos e, if_neg (by omega)]
    · rw [if_neg e]
/-- A row of runs that lies at a. -/
def Rw (H : Heap) (a N : Nat) (f : Nat → Rnn) : Prop := a < H.nxt ∧ H.get a = some (.own (fcells runC (tabX f N)))
section
variable {H H' : Heap} {a N i j : Nat} {f : Nat → Rnn} {va : Value}
theorem Rw.sl (h : Rw H a N f) (hva : va = .slice (some ⟨a, 0, none⟩) N 4) : Sl H va 4 N (fcells runC (tabX f N)) := by
  rw [hva]
  exact sl_own h.1 h.2 (by rw [fcells_len runC_len, tabX_len])
theorem Rw.idx (h : Rw H a N f) (hva : va = .slice (some ⟨a, 0, none⟩) N 4) (hi : i < N) (H0 : Heap) : vidx H0 4 va (.int .i64 (i : Int)) = some (adr va i 4 0, H0) := Sl.idx (h.sl hva) hi
theorem Rw.ld (h : Rw H a N f) (hva : va = .slice (some ⟨a, 0, none⟩) N 4) (hi : i < N) : vldN H 4 (adr va i 4 0) = some (.agg #[.int .i64 (f i).1, .int .i64 (f i).2.1, .int .i64 (f i).2.2.1, .int .i64 (f i).2.2.2], H) := by
  have hl : i < (tabX f N).length := by rw [tabX_len]; exact hi
  have h1 := Sl.elem runC_len (by omega) (show Sl H va 4 (tabX f N).length (fcells runC (tabX f N)) by rw [tabX_len]; exact h.sl hva) hl
  rw [h1]
  have e : (tabX f N)[i] = f i := by
    have := tabX_get (f := f) hi
    rw [List.getElem?_eq_getElem hl] at this
    exact Option.some.inj this
  rw [e]
  rfl
theorem Rw.st (h : Rw H a N f) (hva : va = .slice (some ⟨a, 0, none⟩) N 4) (hi : i < N) (y : Rnn) : vst H 4 (.agg #[.int .i64 y.1, .int .i64 y.2.1, .int .i64 y.2.2.1, .int .i64 y.2.2.2]) (adr va i 4 0) = some (undef, H.set a (fcells runC ((tabX f N).set i y))) := by
  rw [hva]
  simp only [adr, Zcq, h.2]
  rw [show 0 + i * 4 + 0 = i * 4 by omega]
  exact stO_elem runC_len rfl rfl (by rw [tabX_len]; exact hi)
theorem Rw.set (h : Rw H a N f) (i : Nat) (y : Rnn) : Rw (H.set a (fcells runC ((tabX f N).set i y))) a N (fun k => if k = i then y else f k) :=
  ⟨by rw [Zbh]; exact h.1, by rw [Zbi, if_pos rfl, tabX_set]⟩
theorem Rw.keep (h : Rw H a N f) (k : Keep H H') : Rw H' a N f := ⟨Nat.lt_of_lt_of_le h.1 k.nxt, (k.get a h.1).trans h.2⟩
theorem sw_two (f : Nat → Rnn) (i j : Nat) : (fun k => if k = j then f i else (fun k => if k = i then f j else f k) k) = sw f i j := by
  funext k
  unfold sw
  by_cases e1 : k = i
  · subst e1
    by_cases e2 : k = j
    · subst e2; simp
    · simp [e2]
  · simp [e1]
end
/-- Old memory is as it was but for the row at a. -/
structure Rk (a : Nat) (H H' : Heap) : Prop where
  nxt : H.nxt ≤ H'.nxt
  get : ∀ x, x < H.nxt → x ≠ a → H'.get x = H.get x
theorem Rk.refl (a : Nat) (H : Heap) : Rk a H H := ⟨Nat.le_refl _, fun _ _ _ => rfl⟩
theorem Rk.trans {a : Nat} {H H1 H2 : Heap} (p : Rk a H H1) (q : Rk a H1 H2) : Rk a H H2 := ⟨Nat.le_trans p.nxt q.nxt, fun x h1 h2 => (q.get x (Nat.lt_of_lt_of_le h1 p.nxt) h2).trans (p.get x h1 h2)⟩
theorem Rk.keep {a : Nat} {H H1 : Heap} (k : Keep H H1) : Rk a H H1 := ⟨k.nxt, fun x h1 _ => k.get x h1⟩
theorem Rk.set {a : Nat} {H : Heap} {cs : List Value} : Rk a H (H.set a cs) := ⟨by rw [Zbh]; exact Nat.le_refl _, fun x _ h2 => by rw [Zbi, if_neg h2]⟩
end Go.Proofs.Ytjjglonmaajjoaa.AX
