/- Small helpers of the program and of the reference; lists and what holds of all their places; strings byte by byte. No condition beyond each law's own; of the program: the functions' forms. -/
import Derived.Test.YtjjglonmaajjoaaXF
import Derived.Test.YtjjglonmaajjoaaAXzg
namespace Go.Proofs.Ytjjglonmaajjoaa.AX
open Go
set_option maxRecDepth 10000
set_option maxHeartbeats 4000000
set_option linter.unusedSimpArgs false
set_option linter.unusedVariables false
def inR (a b x : Int) : Bool := decide (a ≤ x) && decide (x ≤ b)
theorem inR_iff {a b x : Int} : inR a b x = true ↔ a ≤ x ∧ x ≤ b := by simp [inR]
theorem inR_t {a b x : Int} (h : a ≤ x ∧ x ≤ b) : inR a b x = true := inR_iff.2 h
theorem inR_f {a b x : Int} (h : ¬ (a ≤ x ∧ x ≤ b)) : inR a b x = false := by
  cases e : inR a b x with
  | false => rfl
  | true => exact absurd (inR_iff.1 e) h
theorem r_spec_l01In (x a b : Int) (H : Heap) : Run Try.prog 67 [.int .i64 x, .int .i64 a, .int .i64 b] H fun r H' => Keep H H' ∧ r = .bool (inR a b x) := by
  by_cases h1 : a ≤ x
  · refine Run.intro c67 rfl ?_
    simp (maxSteps := 4000000) (disch := omega) only [Zq, evO, vbox, wr, Zeq, if_true, if_false, Nat.reduceEqDiff, Nat.reduceAdd, Nat.reduceLeDiff, Nat.reduceSub, and_self, and_true, true_and, reduceIte, reduceCtorEq, eq_self, implies_true, forall_const, false_implies, imp_self, decide_true, decide_false, x67]
    exact ⟨Keep.refl _, by simp [inR, h1]⟩
  · refine Run.intro c67 rfl ?_
    simp (maxSteps := 4000000) (disch := omega) only [Zq, evO, vbox, wr, Zeq, if_true, if_false, Nat.reduceEqDiff, Nat.reduceAdd, Nat.reduceLeDiff, Nat.reduceSub, and_self, and_true, true_and, reduceIte, reduceCtorEq, eq_self, implies_true, forall_const, false_implies, imp_self, decide_true, decide_false, x67]
    exact ⟨Keep.refl _, by simp [inR, h1]⟩
theorem r_impl_between (x a b : Int) (H : Heap) : Run Try.prog 61 [.int .i64 x, .int .i64 a, .int .i64 b] H fun r H' => Keep H H' ∧ r = .bool (inR a b x) := by
  by_cases h1 : a ≤ x
  · refine Run.intro c61 rfl ?_
    simp (maxSteps := 4000000) (disch := omega) only [Zq, evO, vbox, wr, Zeq, if_true, if_false, Nat.reduceEqDiff, Nat.reduceAdd, Nat.reduceLeDiff, Nat.reduceSub, and_self, and_true, true_and, reduceIte, reduceCtorEq, eq_self, implies_true, forall_const, false_implies, imp_self, decide_true, decide_false, x61]
    exact ⟨Keep.refl _, by simp [inR, h1]⟩
  · refine Run.intro c61 rfl ?_
    simp (maxSteps := 4000000) (disch := omega) only [Zq, evO, vbox, wr, Zeq, if_true, if_false, Nat.reduceEqDiff, Nat.reduceAdd, Nat.reduceLeDiff, Nat.reduceSub, and_self, and_true, true_and, reduceIte, reduceCtorEq, eq_self, implies_true, forall_const, false_implies, imp_self, decide_true, decide_false, x61]
    exact ⟨Keep.refl _, by simp [inR, h1]⟩
theorem r_impl_isMinute (x : Int) (H : Heap) : Run Try.prog 125 [.int .i64 x] H fun r H' => Keep H H' ∧ r = .bool (inR 0 100000 x) := by
  refine Run.intro c125 rfl ?_
  simp (maxSteps := 4000000) (disch := omega) only [Zq, evO, vbox, wr, Zeq, if_true, if_false, Nat.reduceEqDiff, Nat.reduceAdd, Nat.reduceLeDiff, Nat.reduceSub, and_self, and_true, true_and, reduceIte, reduceCtorEq, eq_self, implies_true, forall_const, false_implies, imp_self, decide_true, decide_false, x125]
  refine GO_call ((r_impl_between x 0 100000 _).mono ?_)
  rintro _ H1 ⟨k1, rfl⟩
  have n1 := k1.nxt
  simp (maxSteps := 4000000) (disch := omega) only [Zq, evO, vbox, wr, Zeq, if_true, if_false, Nat.reduceEqDiff, Nat.reduceAdd, Nat.reduceLeDiff, Nat.reduceSub, and_self, and_true, true_and, reduceIte, reduceCtorEq, eq_self, implies_true, forall_const, false_implies, imp_self, decide_true, decide_false, fix_nil, fix_cons]
  exact k1
def allTo (n : Nat) (f : Nat → Bool) : Bool := (List.range n).all f
theorem allTo_iff {n : Nat} {f : Nat → Bool} : allTo n f = true ↔ ∀ i, i < n → f i = true := by
  simp [allTo]
theorem allTo_bad {n i : Nat} {f : Nat → Bool} (h : i < n) (hf : f i = false) : allTo n f = false := by
  cases e : allTo n f with
  | false => rfl
  | true => rw [allTo_iff.1 e i h] at hf; cases hf
theorem upto_succ {i : Nat} {f : Nat → Bool} (h : ∀ j, j < i → f j = true) (hf : f i = true) : ∀ j, j < i + 1 → f j = true := fun j hj => by
  by_cases e : j = i
  · subst e; exact hf
  · exact h j (by omega)
theorem wrap_pred {i : Nat} (h0 : 0 < i) (h : i < 4611686018427387904) : IntKind.i64.wrap ((i : Int) - 1) = ((i - 1 : Nat) : Int) := by rw [wrap64 (by omega) (by omega)]; omega
/-! ### Strings -/
def bt (s : ByteArray) (i : Nat) : Int := ((s.data.toList.getD i 0).toNat : Int)
def vsidx (H : Heap) (x i : Value) : Option (Value × Heap) := match x, i with
  | .string s, .int _ j => if 0 ≤ j then (match s[j.toNat]? with
    | some b => some (.int .u8 b.toNat, H)
    | none => none) else none
  | _, _ => none
theorem step_sidx {T : Tm} {H : Heap} {x i : XArg} : step T H (.sidx x i) = vsidx H (ev T x) (ev T i) := by
  simp only [step, vsidx]
  cases ev T x <;> cases ev T i <;> rfl
theorem GO_sidx {C : CallRel} {d : Option Nat} {os : List XO} {ks : List Fr} {Q : XE → Tm → Heap → Prop} {T : Tm} {H : Heap} {x i : XArg} : GO C (⟨d, (.sidx x i), none⟩ :: os) ks Q T H = oK C d os ks Q T (vsidx H (ev T x) (ev T i)) := by rw [GO_op rfl, step_sidx]
theorem vsidx_nat {H : Heap} {s : ByteArray} {i : Nat} {k : IntKind} (h : i < s.size) : vsidx H (.string s) (.int k (i : Int)) = some (.int .u8 (bt s i), H) := by
  have e : s[(i : Int).toNat]? = some (s.data.toList.getD i 0) := by
    rw [Int.toNat_natCast]
    rw [getElem?_pos s i h]
    have h' : i < s.data.size := h
    congr 1
    rw [List.getD_eq_getElem?_getD, Array.getElem?_toList, Array.getElem?_eq_getElem h']
    rfl
  unfold vsidx
  simp only
  rw [if_pos (by omega), e]
  rfl
end Go.Proofs.Ytjjglonmaajjoaa.AX
