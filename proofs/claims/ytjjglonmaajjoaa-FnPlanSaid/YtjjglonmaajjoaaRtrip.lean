/- Trips, with their names: what the laws' helpers do. No condition beyond each law's own; of the program: the functions' forms. -/
import Derived.Test.YtjjglonmaajjoaaRnet
namespace Go.Proofs.Ytjjglonmaajjoaa.AX
open Go
set_option maxRecDepth 10000
set_option maxHeartbeats 4000000
set_option linter.unusedSimpArgs false
set_option linter.unusedVariables false
-- Call
def callC (x : Int × Int × Int) : List Value := [.int .i64 x.1, .int .i64 x.2.1, .int .i64 x.2.2]
theorem callC_len (x : Int × Int × Int) : (callC x).length = 3 := rfl
def callM (x : Int × Int × Int) (k : Nat) : (Int × Int × Int) × Nat := ((((k + 0 : Nat) : Int), ((k + 1 : Nat) : Int), ((k + 2 : Nat) : Int)), k + 3)
abbrev rCall : Rep (Int × Int × Int) := flatRep callC 3 callC_len callM
theorem vlenS_str {H : Heap} {s : ByteArray} : vlenS H (.string s) = some (.int .i64 s.size, H) := nofl rfl
theorem abin_seq {s t : ByteArray} : abin .eql (.string s) (.string t) = some (.bool (s.toList == t.toList)) := nofl rfl
/-- The digits of k, ahead of what is there. -/
def mkDigs (k : Nat) (out : ByteArray) : ByteArray := if k = 0 then out else mkDigs (k / 10) (strOfNums [((48 + k % 10 : Nat) : Int)] ++ out)
termination_by k
decreasing_by omega
def mkText (k : Nat) : ByteArray := if k = 0 then strOfNums [109, 48] else strOfNums [109] ++ mkDigs k .empty
/-- A text. -/
def rStr : Rep ByteArray where
  sz := 1
  rd := fun _ cs a => cs = [.string a]
  own := fun _ cs a F => cs = [.string a] ∧ F = []
  tot := fun a => a.size
  fit := fun a => a.size ≤ 9223372036854775807
  mar := fun _ k => (mkText k, k + 1)
  val := one1
  valc := fun {H cs a} h => by subst h; exact ⟨rfl, rfl⟩
  len := fun h => by rw [h]; rfl
  rdk := fun h _ => h
  ownrd := fun h => h.1
  ownlt := fun h i hi => by rw [h.2] at hi; cases hi
  ownk := fun h _ _ => h
def rTrip : Rep (ByteArray × (List (Int × Int × Int))) := rPair rStr (rSlc rCall)
theorem trip_rd {H : Heap} {cs : List Value} {x0 : ByteArray} {x1 : List (Int × Int × Int)} (h : rTrip.rd H cs (x0, x1)) : ∃ v1, cs = [.string x0, v1] ∧ (rSlc rCall).rd H [v1] x1 := by
  obtain ⟨c0, d0, rfl, h0, h1⟩ := h
  have e0 : c0 = [.string x0] := h0
  subst e0
  obtain ⟨v1, rfl⟩ := slc_one h1
  exact ⟨v1, rfl, h1⟩
theorem trip_own' {H : Heap} {v1 : Value} {x0 : ByteArray} {x1 : List (Int × Int × Int)} {F1 : List Nat} (h1 : (rSlc rCall).own H [v1] x1 F1) : rTrip.own H [.string x0, v1] (x0, x1) (F1) := by
  have e : F1 = ([] : List Nat) ++ F1 := by simp
  rw [e]
  exact ⟨[.string x0], _, [], _, rfl, ⟨rfl, rfl⟩, h1, rfl⟩
theorem trip_tot {x0 : ByteArray} {x1 : List (Int × Int × Int)} : rTrip.tot (x0, x1) = x0.size + (rSlc rCall).tot x1 := rfl
end Go.Proofs.Ytjjglonmaajjoaa.AX
