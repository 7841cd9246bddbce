/- Trips, with their names: what the laws' helpers do. No condition beyond each law's own; of the program: the functions' forms. -/
import Derived.Test.YtkadelndmaegdaaRnet
namespace Go.Proofs.Ytkadelndmaegdaa.AX
open Go
set_option maxRecDepth 10000
set_option maxHeartbeats 4000000
set_option linter.unusedSimpArgs false
set_option linter.unusedVariables false
-- Call
def callC (x : Int × Int × Int) : List Value := [.int .i64 x.1, .int .i64 x.2.1, .int .i64 x.2.2]
theorem callC_len (x : Int × Int × Int) : (callC x).length = 3 := rfl
def callM (x : Int × Int × Int) (k : Nat) : (Int × Int × Int) × Nat := ((((k + 0 : Nat) : Int), ((k + 1 : Nat) : Int), ((k + 2 : Nat) : Int)), k + 3)
abbrev rCall : Rep (Int × Int × Int) := flatRep callC 3 callC_len callM
theorem call_val (x : Int × Int × Int) : rCall.val (callC x) = .agg #[.int .i64 x.1, .int .i64 x.2.1, .int .i64 x.2.2] := nofl rfl
theorem marB_Call : MarB rCall := fun x k => by show k + 3 ≤ _; omega
-- Trip
theorem vlenS_str {H : Heap} {s : ByteArray} : vlenS H (.string s) = some (.int .i64 s.size, H) := nofl rfl
theorem abin_sne {s t : ByteArray} : abin .neq (.string s) (.string t) = some (.bool (!(s.toList == t.toList))) := nofl rfl
theorem abin_seq {s t : ByteArray} : abin .eql (.string s) (.string t) = some (.bool (s.toList == t.toList)) := nofl rfl
theorem abin_sne_self {s : ByteArray} : abin .neq (.string s) (.string s) = some (.bool false) := by rw [abin_sne, beq_self_eq_true]; rfl
/-- The digits of k, ahead of what is there. -/
def mkDigs (k : Nat) (out : ByteArray) : ByteArray := if k = 0 then out else mkDigs (k / 10) (strOfNums [((48 + k % 10 : Nat) : Int)] ++ out)
termination_by k
decreasing_by omega
def mkText (k : Nat) : ByteArray := if k = 0 then strOfNums [109, 48] else strOfNums [109] ++ mkDigs k .empty
/-- A text. -/
def rStr : Rep ByteArray where
  sz := 1
  rd := fun _ cs a => cs = [.string a]
  own := fun _ cs a F => cs = [.string a] ∧ F = []
  tot := fun a => a.size
  fit := fun a => a.size ≤ 9223372036854775807
  mar := fun _ k => (mkText k, k + 1)
  val := one1
  valc := fun {H cs a} h => by subst h; exact ⟨rfl, rfl⟩
  len := fun h => by rw [h]; rfl
  rdk := fun h _ => h
  ownrd := fun h => h.1
  ownlt := fun h i hi => by rw [h.2] at hi; cases hi
  ownk := fun h _ _ => h
theorem marC_Str : MarC rStr 1 := fun x k => by show k + 1 ≤ _; omega
def rTrip : Rep (ByteArray × (List (Int × Int × Int))) := rPair rStr (rSlc rCall)
theorem trip_rd {H : Heap} {cs : List Value} {x0 : ByteArray} {x1 : List (Int × Int × Int)} (h : rTrip.rd H cs (x0, x1)) : ∃ v1, cs = [.string x0, v1] ∧ (rSlc rCall).rd H [v1] x1 := by
  obtain ⟨c0, d0, rfl, h0, h1⟩ := h
  have e0 : c0 = [.string x0] := h0
  subst e0
  obtain ⟨v1, rfl⟩ := slc_one h1
  exact ⟨v1, rfl, h1⟩
theorem trip_rd' {H : Heap} {v1 : Value} {x0 : ByteArray} {x1 : List (Int × Int × Int)} (h1 : (rSlc rCall).rd H [v1] x1) : rTrip.rd H [.string x0, v1] (x0, x1) := ⟨[.string x0], _, rfl, rfl, h1⟩
theorem trip_own {H : Heap} {cs : List Value} {x0 : ByteArray} {x1 : List (Int × Int × Int)} {F : List Nat} (h : rTrip.own H cs (x0, x1) F) : ∃ v1 F1, cs = [.string x0, v1] ∧ (rSlc rCall).own H [v1] x1 F1 ∧ F = F1 := by
  obtain ⟨c0, d0, E0, G0, rfl, h0, h1, rfl⟩ := h
  obtain ⟨e0, f0⟩ : c0 = [.string x0] ∧ E0 = [] := h0
  subst e0 f0
  obtain ⟨v1, rfl⟩ := slc_one ((rSlc rCall).ownrd h1)
  exact ⟨v1, G0, rfl, h1, by simp⟩
theorem trip_own' {H : Heap} {v1 : Value} {x0 : ByteArray} {x1 : List (Int × Int × Int)} {F1 : List Nat} (h1 : (rSlc rCall).own H [v1] x1 F1) : rTrip.own H [.string x0, v1] (x0, x1) (F1) := by
  have e : F1 = ([] : List Nat) ++ F1 := by simp
  rw [e]
  exact ⟨[.string x0], _, [], _, rfl, ⟨rfl, rfl⟩, h1, rfl⟩
theorem trip_val {v1 : Value} {x0 : ByteArray} : rTrip.val [.string x0, v1] = .agg #[.string x0, v1] := nofl rfl
theorem trip_tot {x0 : ByteArray} {x1 : List (Int × Int × Int)} : rTrip.tot (x0, x1) = x0.size + (rSlc rCall).tot x1 := rfl
theorem marB_Trip : MarB rTrip := MarB.of (MarC.pair marC_Str (MarC.slc marB_Call)) (by omega)
theorem szCallS_is : IsSz Try.prog (rSlc rCall) 81 := szFlat_is c81 (fun _ => rfl)
theorem szTrip_is : IsSz Try.prog rTrip 59 := by
  rintro H cs ⟨x0, x1⟩ q hrd hfit hq
  obtain ⟨f0, f1⟩ := hfit
  obtain ⟨v1, rfl, h1⟩ := trip_rd hrd
  rw [trip_tot]
  refine Run.intro c59 rfl ?_
  simp only [trip_val]
  by_cases hsz : x0.size ≤ q
  rotate_left
  · have hw : IntKind.i64.wrap ((q : Int) - (x0.size : Int)) = (q : Int) - (x0.size : Int) := wrap64 (by have : x0.size ≤ 9223372036854775807 := f0; omega) (by omega)
    simp (maxSteps := 4000000) (disch := omega) only [Zq, evO, vbox, wr, Zeq, if_true, if_false, Nat.reduceEqDiff, Nat.reduceAdd, Nat.reduceLeDiff, Nat.reduceSub, and_self, and_true, true_and, reduceIte, reduceCtorEq, eq_self, implies_true, forall_const, false_implies, imp_self, decide_true, decide_false, x59, vlenS_str, hw]
    exact ⟨Keep.push _ _, by simp⟩
  have hw : IntKind.i64.wrap ((q : Int) - (x0.size : Int)) = ((q - x0.size : Nat) : Int) := by rw [wrap64 (by omega) (by omega)]; omega
  simp (maxSteps := 4000000) (disch := omega) only [Zq, evO, vbox, wr, Zeq, if_true, if_false, Nat.reduceEqDiff, Nat.reduceAdd, Nat.reduceLeDiff, Nat.reduceSub, and_self, and_true, true_and, reduceIte, reduceCtorEq, eq_self, implies_true, forall_const, false_implies, imp_self, decide_true, decide_false, x59, vlenS_str, hw]
  refine GO_call ((szCallS_is _ [v1] x1 (q - x0.size) ((rSlc rCall).rdk h1 (Keep.push _ _)) f1 (by omega)).mono ?_)
  rintro w H1 ⟨k1, hw⟩
  have n1 := k1.nxt
  have g1 := k1.get H.nxt (by simp only [Zbg]; omega)
  simp (maxSteps := 4000000) (disch := omega) only [Zq, evO, vbox, wr, Zeq, if_true, if_false, Nat.reduceEqDiff, Nat.reduceAdd, Nat.reduceLeDiff, Nat.reduceSub, and_self, and_true, true_and, reduceIte, reduceCtorEq, eq_self, implies_true, forall_const, false_implies, imp_self, decide_true, decide_false] at n1 g1
  have K1 : Keep H H1 := Keep.trans (Keep.push _ _) k1
  rcases hw with rfl | ⟨q1, rfl, hq1⟩
  · simp (maxSteps := 4000000) (disch := omega) only [Zq, evO, vbox, wr, Zeq, if_true, if_false, Nat.reduceEqDiff, Nat.reduceAdd, Nat.reduceLeDiff, Nat.reduceSub, and_self, and_true, true_and, reduceIte, reduceCtorEq, eq_self, implies_true, forall_const, false_implies, imp_self, decide_true, decide_false, g1]
    exact ⟨K1, by simp⟩
  simp (maxSteps := 4000000) (disch := omega) only [Zq, evO, vbox, wr, Zeq, if_true, if_false, Nat.reduceEqDiff, Nat.reduceAdd, Nat.reduceLeDiff, Nat.reduceSub, and_self, and_true, true_and, reduceIte, reduceCtorEq, eq_self, implies_true, forall_const, false_implies, imp_self, decide_true, decide_false, g1]
  exact ⟨K1, .inr ⟨q1, rfl, by omega⟩⟩
theorem elemTrip : Elem rTrip true 2 := ⟨rfl, by omega, fun _ _ => rfl, fun h => by cases h⟩
theorem szTripS_is : IsSz Try.prog (rSlc rTrip) 27 := szCall_is (agg := true) (sz := 2) c27 elemTrip szTrip_is
theorem toCl_is : IsTo Try.prog rCall 91 := by
  intro H cs a hrd _
  have e : cs = callC a := hrd
  subst e
  refine Run.intro c91 rfl ?_
  simp only [call_val]
  simp (maxSteps := 4000000) (disch := omega) only [Zq, evO, vbox, wr, Zeq, if_true, if_false, Nat.reduceEqDiff, Nat.reduceAdd, Nat.reduceLeDiff, Nat.reduceSub, and_self, and_true, true_and, reduceIte, reduceCtorEq, eq_self, implies_true, forall_const, false_implies, imp_self, decide_true, decide_false, x91]
  exact ⟨by repeat' (first | exact Keep.refl _ | assumption | refine Keep.push' ?_ | refine Keep.set' ?_ ?_ | refine Keep.moved' ?_ ?_ | omega), callC a, [], rfl, ⟨rfl, rfl⟩, List.nodup_nil, fun i hi => by cases hi⟩
theorem elemCall : Elem rCall true 3 := ⟨rfl, by omega, fun _ _ => rfl, fun h => by cases h⟩
theorem toCallS_is : IsTo Try.prog (rSlc rCall) 84 := toCall_is (agg := true) (sz := 3) (bytes := 24) (zs := [.int .i64 0, .int .i64 0, .int .i64 0]) c84 (by omega) rfl elemCall toCl_is
theorem toTrip_is : IsTo Try.prog rTrip 67 := by
  rintro H cs ⟨x0, x1⟩ hrd htot
  obtain ⟨v1, rfl, h1⟩ := trip_rd hrd
  rw [trip_tot] at htot
  refine Run.intro c67 rfl ?_
  simp only [trip_val]
  simp (maxSteps := 4000000) (disch := omega) only [Zq, evO, vbox, wr, Zeq, if_true, if_false, Nat.reduceEqDiff, Nat.reduceAdd, Nat.reduceLeDiff, Nat.reduceSub, and_self, and_true, true_and, reduceIte, reduceCtorEq, eq_self, implies_true, forall_const, false_implies, imp_self, decide_true, decide_false, x67]
  have K0 : Keep H H := Keep.refl H
  refine GO_call ((toCallS_is _ [v1] x1 ((rSlc rCall).rdk h1 (by repeat' (first | exact Keep.refl _ | assumption | refine Keep.push' ?_ | refine Keep.set' ?_ ?_ | refine Keep.moved' ?_ ?_ | omega))) (by omega)).mono ?_)
  rintro _ H1 ⟨k1, _, F1, rfl, o1, f1⟩
  obtain ⟨y1, rfl⟩ := slc_one ((rSlc rCall).ownrd o1)
  obtain ⟨y1a, y1b⟩ := slc_cell ((rSlc rCall).ownrd o1)
  have n1 := k1.nxt
  have gA1 := k1.get H.nxt (by simp only [Zbg, Zbh]; omega)
  have gB1 := k1.get (H.nxt + 1) (by simp only [Zbg, Zbh]; omega)
  have gC1 := k1.get (H.nxt + 2) (by simp only [Zbg, Zbh]; omega)
  have K1 : Keep H H1 := Keep.trans (by repeat' (first | exact Keep.refl _ | assumption | refine Keep.push' ?_ | refine Keep.set' ?_ ?_ | refine Keep.moved' ?_ ?_ | omega)) k1
  simp (maxSteps := 4000000) (disch := omega) only [Zq, evO, vbox, wr, Zeq, if_true, if_false, Nat.reduceEqDiff, Nat.reduceAdd, Nat.reduceLeDiff, Nat.reduceSub, and_self, and_true, true_and, reduceIte, reduceCtorEq, eq_self, implies_true, forall_const, false_implies, imp_self, decide_true, decide_false] at n1 gA1 gB1 gC1
  have f12 := f1.2
  simp only [Zbg, Zbh] at f12
  simp only [slc_val]
  simp (maxSteps := 4000000) (disch := omega) only [Zq, evO, vbox, wr, Zeq, if_true, if_false, Nat.reduceEqDiff, Nat.reduceAdd, Nat.reduceLeDiff, Nat.reduceSub, and_self, and_true, true_and, reduceIte, reduceCtorEq, eq_self, implies_true, forall_const, false_implies, imp_self, decide_true, decide_false, gA1, gB1, gC1, y1a, y1b]
  refine ⟨by repeat' (first | exact Keep.refl _ | assumption | refine Keep.push' ?_ | refine Keep.set' ?_ ?_ | refine Keep.moved' ?_ ?_ | omega), [.string x0, y1], F1, rfl, trip_own' ((rSlc rCall).ownChg (G := [H.nxt + 1, H.nxt + 2]) o1 (by repeat' (first | exact Chg.refl _ _ | refine Chg.trans ?_ (Chg.set (by simp)))) (fun a ha => by have := f12 a ha; simp only [List.mem_cons, List.not_mem_nil, or_false, not_or]; omega)), ?_, fun i hi => ?_⟩
  · skip
    exact f1.1
  · simp only [Zbh]
    have := f12 i hi
    omega
theorem toTripS_is : IsTo Try.prog (rSlc rTrip) 35 := toCall_is (agg := true) (sz := 2) (bytes := 40) (zs := [.string ⟨#[]⟩, .slice none 0 0]) c35 (by omega) rfl elemTrip toTrip_is
theorem eqCl_is : IsEq Try.prog rCall 90 := by
  intro H cs ds a hrd hrd2 _
  have e : cs = callC a := hrd
  have e2 : ds = callC a := hrd2
  subst e e2
  refine Run.intro c90 rfl ?_
  simp only [call_val]
  simp (maxSteps := 4000000) (disch := omega) only [Zq, evO, vbox, wr, Zeq, if_true, if_false, Nat.reduceEqDiff, Nat.reduceAdd, Nat.reduceLeDiff, Nat.reduceSub, and_self, and_true, true_and, reduceIte, reduceCtorEq, eq_self, implies_true, forall_const, false_implies, imp_self, decide_true, decide_false, x90, vbinB_ne]
  try repeat' (first | exact Keep.refl _ | assumption | refine Keep.push' ?_ | refine Keep.set' ?_ ?_ | refine Keep.moved' ?_ ?_ | omega)
theorem eqCallS_is : IsEq Try.prog (rSlc rCall) 79 := eqCall_is (agg := true) (sz := 3) c79 elemCall eqCl_is
theorem eqTrip_is : IsEq Try.prog rTrip 43 := by
  rintro H cs ds ⟨x0, x1⟩ hrd hrd2 htot
  obtain ⟨v1, rfl, h1⟩ := trip_rd hrd
  obtain ⟨u1, rfl, l1⟩ := trip_rd hrd2
  rw [trip_tot] at htot
  refine Run.intro c43 rfl ?_
  simp only [trip_val]
  simp (maxSteps := 4000000) (disch := omega) only [Zq, evO, vbox, wr, Zeq, if_true, if_false, Nat.reduceEqDiff, Nat.reduceAdd, Nat.reduceLeDiff, Nat.reduceSub, and_self, and_true, true_and, reduceIte, reduceCtorEq, eq_self, implies_true, forall_const, false_implies, imp_self, decide_true, decide_false, x43, vbinB_ne, abin_sne_self]
  refine GO_call ((eqCallS_is _ [v1] [u1] x1 ((rSlc rCall).rdk h1 (by repeat' (first | exact Keep.refl _ | assumption | refine Keep.push' ?_ | refine Keep.set' ?_ ?_ | refine Keep.moved' ?_ ?_ | omega))) ((rSlc rCall).rdk l1 (by repeat' (first | exact Keep.refl _ | assumption | refine Keep.push' ?_ | refine Keep.set' ?_ ?_ | refine Keep.moved' ?_ ?_ | omega))) (by omega)).mono ?_)
  rintro _ H1 ⟨k1, rfl⟩
  have K1 : Keep H H1 := Keep.trans (by repeat' (first | exact Keep.refl _ | assumption | refine Keep.push' ?_ | refine Keep.set' ?_ ?_ | refine Keep.moved' ?_ ?_ | omega)) k1
  simp (maxSteps := 4000000) (disch := omega) only [Zq, evO, vbox, wr, Zeq, if_true, if_false, Nat.reduceEqDiff, Nat.reduceAdd, Nat.reduceLeDiff, Nat.reduceSub, and_self, and_true, true_and, reduceIte, reduceCtorEq, eq_self, implies_true, forall_const, false_implies, imp_self, decide_true, decide_false, vbinB_ne]
  try exact K1
theorem eqTripS_is : IsEq Try.prog (rSlc rTrip) 15 := eqCall_is (agg := true) (sz := 2) c15 elemTrip eqTrip_is
end Go.Proofs.Ytkadelndmaegdaa.AX
