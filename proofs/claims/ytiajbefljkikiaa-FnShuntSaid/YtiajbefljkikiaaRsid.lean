/- Sidings and shunts: what the laws' helpers do. No condition beyond each law's own; of the program: the functions' forms. -/
import Derived.Test.YtiajbefljkikiaaXF
import Derived.Test.YtiajbefljkikiaaAXzd
namespace Go.Proofs.Ytiajbefljkikiaa.AX
open Go
set_option maxRecDepth 10000
set_option maxHeartbeats 4000000
set_option linter.unusedSimpArgs false
set_option linter.unusedVariables false
-- Sidings
def rSidings : Rep ((List Int) × (List (List Int))) := rPair (rSlc rInt) (rSlc (rSlc rInt))
theorem sidings_rd {H : Heap} {cs : List Value} {x0 : List Int} {x1 : List (List Int)} (h : rSidings.rd H cs (x0, x1)) : ∃ v0 v1, cs = [v0, v1] ∧ (rSlc rInt).rd H [v0] x0 ∧ (rSlc (rSlc rInt)).rd H [v1] x1 := by
  obtain ⟨c0, d0, rfl, h0, h1⟩ := h
  obtain ⟨v0, rfl⟩ := slc_one h0
  obtain ⟨v1, rfl⟩ := slc_one h1
  exact ⟨v0, v1, rfl, h0, h1⟩
theorem sidings_rd' {H : Heap} {v0 v1 : Value} {x0 : List Int} {x1 : List (List Int)} (h0 : (rSlc rInt).rd H [v0] x0) (h1 : (rSlc (rSlc rInt)).rd H [v1] x1) : rSidings.rd H [v0, v1] (x0, x1) := ⟨[v0], _, rfl, h0, h1⟩
theorem sidings_own {H : Heap} {cs : List Value} {x0 : List Int} {x1 : List (List Int)} {F : List Nat} (h : rSidings.own H cs (x0, x1) F) : ∃ v0 v1 F0 F1, cs = [v0, v1] ∧ (rSlc rInt).own H [v0] x0 F0 ∧ (rSlc (rSlc rInt)).own H [v1] x1 F1 ∧ F = F0 ++ F1 := by
  obtain ⟨c0, d0, E0, G0, rfl, h0, h1, rfl⟩ := h
  obtain ⟨v0, rfl⟩ := slc_one ((rSlc rInt).ownrd h0)
  obtain ⟨v1, rfl⟩ := slc_one ((rSlc (rSlc rInt)).ownrd h1)
  exact ⟨v0, v1, E0, G0, rfl, h0, h1, by simp⟩
theorem sidings_own' {H : Heap} {v0 v1 : Value} {x0 : List Int} {x1 : List (List Int)} {F0 F1 : List Nat} (h0 : (rSlc rInt).own H [v0] x0 F0) (h1 : (rSlc (rSlc rInt)).own H [v1] x1 F1) : rSidings.own H [v0, v1] (x0, x1) (F0 ++ F1) := by
  exact ⟨[v0], _, F0, _, rfl, h0, h1, rfl⟩
theorem sidings_val {v0 v1 : Value}  : rSidings.val [v0, v1] = .agg #[v0, v1] := nofl rfl
theorem sidings_tot {x0 : List Int} {x1 : List (List Int)} : rSidings.tot (x0, x1) = (rSlc rInt).tot x0 + (rSlc (rSlc rInt)).tot x1 := by
  show (rSlc rInt).tot x0 + (rSlc (rSlc rInt)).tot x1 = _
  omega
theorem marB_Sidings : MarB rSidings := MarB.of (MarC.pair (MarC.slc MarB.int) (MarC.slc (MarB.slc MarB.int))) (by omega)
theorem szIntS_is : IsSz Try.prog (rSlc rInt) 71 := szPlain_is c71
theorem elemIntS : Elem (rSlc rInt) false 1 := ⟨rfl, by omega, fun h => (by cases h), fun _ => ⟨rfl, rfl⟩⟩
theorem szIntSS_is : IsSz Try.prog (rSlc (rSlc rInt)) 72 := szCall_is (agg := false) (sz := 1) c72 elemIntS szIntS_is
theorem szSidings_is : IsSz Try.prog rSidings 26 := by
  rintro H cs ⟨x0, x1⟩ q hrd hfit hq
  obtain ⟨f0, f1⟩ := hfit
  obtain ⟨v0, v1, rfl, h0, h1⟩ := sidings_rd hrd
  rw [sidings_tot]
  refine Run.intro c26 rfl ?_
  simp only [sidings_val]
  simp (maxSteps := 4000000) (disch := omega) only [Zq, evO, vbox, wr, Zeq, if_true, if_false, Nat.reduceEqDiff, Nat.reduceAdd, Nat.reduceLeDiff, Nat.reduceSub, and_self, and_true, true_and, reduceIte, reduceCtorEq, eq_self, implies_true, forall_const, false_implies, imp_self, decide_true, decide_false, x26]
  refine GO_call ((szIntS_is _ [v0] x0 q ((rSlc rInt).rdk h0 (Keep.push _ _)) f0 (by omega)).mono ?_)
  rintro w H1 ⟨k1, hw⟩
  have n1 := k1.nxt
  have g1 := k1.get H.nxt (by simp only [Zbg]; omega)
  simp (maxSteps := 4000000) (disch := omega) only [Zq, evO, vbox, wr, Zeq, if_true, if_false, Nat.reduceEqDiff, Nat.reduceAdd, Nat.reduceLeDiff, Nat.reduceSub, and_self, and_true, true_and, reduceIte, reduceCtorEq, eq_self, implies_true, forall_const, false_implies, imp_self, decide_true, decide_false] at n1 g1
  have K1 : Keep H H1 := Keep.trans (Keep.push _ _) k1
  rcases hw with rfl | ⟨q1, rfl, hq1⟩
  · simp (maxSteps := 4000000) (disch := omega) only [Zq, evO, vbox, wr, Zeq, if_true, if_false, Nat.reduceEqDiff, Nat.reduceAdd, Nat.reduceLeDiff, Nat.reduceSub, and_self, and_true, true_and, reduceIte, reduceCtorEq, eq_self, implies_true, forall_const, false_implies, imp_self, decide_true, decide_false, g1]
    exact ⟨K1, by simp⟩
  simp (maxSteps := 4000000) (disch := omega) only [Zq, evO, vbox, wr, Zeq, if_true, if_false, Nat.reduceEqDiff, Nat.reduceAdd, Nat.reduceLeDiff, Nat.reduceSub, and_self, and_true, true_and, reduceIte, reduceCtorEq, eq_self, implies_true, forall_const, false_implies, imp_self, decide_true, decide_false, g1]
  refine GO_call ((szIntSS_is _ [v1] x1 q1 ((rSlc (rSlc rInt)).rdk h1 K1) f1 (by omega)).mono ?_)
  rintro w H2 ⟨k2, hw⟩
  have n2 := k2.nxt
  have g2 := (k2.get H.nxt (by omega)).trans g1
  have K2 : Keep H H2 := Keep.trans K1 k2
  rcases hw with rfl | ⟨q2, rfl, hq2⟩
  · simp (maxSteps := 4000000) (disch := omega) only [Zq, evO, vbox, wr, Zeq, if_true, if_false, Nat.reduceEqDiff, Nat.reduceAdd, Nat.reduceLeDiff, Nat.reduceSub, and_self, and_true, true_and, reduceIte, reduceCtorEq, eq_self, implies_true, forall_const, false_implies, imp_self, decide_true, decide_false, g2]
    exact ⟨K2, by simp⟩
  simp (maxSteps := 4000000) (disch := omega) only [Zq, evO, vbox, wr, Zeq, if_true, if_false, Nat.reduceEqDiff, Nat.reduceAdd, Nat.reduceLeDiff, Nat.reduceSub, and_self, and_true, true_and, reduceIte, reduceCtorEq, eq_self, implies_true, forall_const, false_implies, imp_self, decide_true, decide_false, g2]
  exact ⟨K2, .inr ⟨q2, rfl, by omega⟩⟩
theorem toIntS_is : IsTo Try.prog (rSlc rInt) 51 := toPlain_is c51 (by omega)
theorem toIntSS_is : IsTo Try.prog (rSlc (rSlc rInt)) 77 := toCall_is (agg := false) (sz := 1) (bytes := 24) (zs := [.slice none 0 0]) c77 (by omega) rfl elemIntS toIntS_is
theorem toSidings_is : IsTo Try.prog rSidings 28 := by
  rintro H cs ⟨x0, x1⟩ hrd htot
  obtain ⟨v0, v1, rfl, h0, h1⟩ := sidings_rd hrd
  rw [sidings_tot] at htot
  refine Run.intro c28 rfl ?_
  simp only [sidings_val]
  simp (maxSteps := 4000000) (disch := omega) only [Zq, evO, vbox, wr, Zeq, if_true, if_false, Nat.reduceEqDiff, Nat.reduceAdd, Nat.reduceLeDiff, Nat.reduceSub, and_self, and_true, true_and, reduceIte, reduceCtorEq, eq_self, implies_true, forall_const, false_implies, imp_self, decide_true, decide_false, x28]
  have K0 : Keep H H := Keep.refl H
  refine GO_call ((toIntS_is _ [v0] x0 ((rSlc rInt).rdk h0 (by repeat' (first | exact Keep.refl _ | assumption | refine Keep.push' ?_ | refine Keep.set' ?_ ?_ | refine Keep.moved' ?_ ?_ | omega))) (by omega)).mono ?_)
  rintro _ H1 ⟨k1, _, F0, rfl, o0, f0⟩
  obtain ⟨y0, rfl⟩ := slc_one ((rSlc rInt).ownrd o0)
  obtain ⟨y0a, y0b⟩ := slc_cell ((rSlc rInt).ownrd o0)
  have n1 := k1.nxt
  have gA1 := k1.get H.nxt (by simp only [Zbg, Zbh]; omega)
  have gB1 := k1.get (H.nxt + 1) (by simp only [Zbg, Zbh]; omega)
  have gC1 := k1.get (H.nxt + 2) (by simp only [Zbg, Zbh]; omega)
  have K1 : Keep H H1 := Keep.trans (by repeat' (first | exact Keep.refl _ | assumption | refine Keep.push' ?_ | refine Keep.set' ?_ ?_ | refine Keep.moved' ?_ ?_ | omega)) k1
  simp (maxSteps := 4000000) (disch := omega) only [Zq, evO, vbox, wr, Zeq, if_true, if_false, Nat.reduceEqDiff, Nat.reduceAdd, Nat.reduceLeDiff, Nat.reduceSub, and_self, and_true, true_and, reduceIte, reduceCtorEq, eq_self, implies_true, forall_const, false_implies, imp_self, decide_true, decide_false] at n1 gA1 gB1 gC1
  have f02 := f0.2
  simp only [Zbg, Zbh] at f02
  simp only [slc_val]
  simp (maxSteps := 4000000) (disch := omega) only [Zq, evO, vbox, wr, Zeq, if_true, if_false, Nat.reduceEqDiff, Nat.reduceAdd, Nat.reduceLeDiff, Nat.reduceSub, and_self, and_true, true_and, reduceIte, reduceCtorEq, eq_self, implies_true, forall_const, false_implies, imp_self, decide_true, decide_false, gA1, gB1, gC1, y0a, y0b]
  refine GO_call ((toIntSS_is _ [v1] x1 ((rSlc (rSlc rInt)).rdk h1 (by repeat' (first | exact Keep.refl _ | assumption | refine Keep.push' ?_ | refine Keep.set' ?_ ?_ | refine Keep.moved' ?_ ?_ | omega))) (by omega)).mono ?_)
  rintro _ H2 ⟨k2, _, F1, rfl, o1, f1⟩
  obtain ⟨y1, rfl⟩ := slc_one ((rSlc (rSlc rInt)).ownrd o1)
  obtain ⟨y1a, y1b⟩ := slc_cell ((rSlc (rSlc rInt)).ownrd o1)
  have n2 := k2.nxt
  have gA2 := k2.get H.nxt (by simp only [Zbg, Zbh]; omega)
  have gB2 := k2.get (H.nxt + 1) (by simp only [Zbg, Zbh]; omega)
  have gC2 := k2.get (H.nxt + 2) (by simp only [Zbg, Zbh]; omega)
  have K2 : Keep H H2 := Keep.trans (by repeat' (first | exact Keep.refl _ | assumption | refine Keep.push' ?_ | refine Keep.set' ?_ ?_ | refine Keep.moved' ?_ ?_ | omega)) k2
  have C2_0 : Chg [H.nxt + 1, H.nxt + 2] H1 H2 := by
    refine Chg.trans ?_ k2.chg
    repeat' (first | exact Chg.refl _ _ | refine Chg.trans ?_ (Chg.set (by simp)))
  have o0 := (rSlc rInt).ownChg o0 C2_0 (fun a ha => by have := f02 a ha; simp only [List.mem_cons, List.not_mem_nil, or_false, not_or]; omega)
  simp (maxSteps := 4000000) (disch := omega) only [Zq, evO, vbox, wr, Zeq, if_true, if_false, Nat.reduceEqDiff, Nat.reduceAdd, Nat.reduceLeDiff, Nat.reduceSub, and_self, and_true, true_and, reduceIte, reduceCtorEq, eq_self, implies_true, forall_const, false_implies, imp_self, decide_true, decide_false, gA1, gB1, gC1, y0a, y0b] at n2 gA2 gB2 gC2
  have f12 := f1.2
  simp only [Zbg, Zbh] at f12
  simp only [slc_val]
  simp (maxSteps := 4000000) (disch := omega) only [Zq, evO, vbox, wr, Zeq, if_true, if_false, Nat.reduceEqDiff, Nat.reduceAdd, Nat.reduceLeDiff, Nat.reduceSub, and_self, and_true, true_and, reduceIte, reduceCtorEq, eq_self, implies_true, forall_const, false_implies, imp_self, decide_true, decide_false, gA2, gB2, gC2, y0a, y0b, y1a, y1b]
  refine ⟨by repeat' (first | exact Keep.refl _ | assumption | refine Keep.push' ?_ | refine Keep.set' ?_ ?_ | refine Keep.moved' ?_ ?_ | omega), [y0, y1], F0 ++ F1, rfl, sidings_own' ((rSlc rInt).ownChg (G := [H.nxt + 1, H.nxt + 2]) o0 (by repeat' (first | exact Chg.refl _ _ | refine Chg.trans ?_ (Chg.set (by simp)))) (fun a ha => by have := f02 a ha; simp only [List.mem_cons, List.not_mem_nil, or_false, not_or]; omega)) ((rSlc (rSlc rInt)).ownChg (G := [H.nxt + 1, H.nxt + 2]) o1 (by repeat' (first | exact Chg.refl _ _ | refine Chg.trans ?_ (Chg.set (by simp)))) (fun a ha => by have := f12 a ha; simp only [List.mem_cons, List.not_mem_nil, or_false, not_or]; omega)), ?_, fun i hi => ?_⟩
  · skip
    refine List.nodup_append.2 ⟨f0.1, ?_, fun a ha b hb => ?_⟩
    · skip
      exact f1.1
    · have := f02 a ha
      have := f12 b hb
      omega
  · simp only [Zbh]
    simp only [List.mem_append] at hi
    rcases hi with hi | hi
    · have := f02 i hi; omega
    · have := f12 i hi; omega
theorem eqIntS_is : IsEq Try.prog (rSlc rInt) 43 := eqPlain_is c43 (fun z => by rw [Zdv]; simp)
theorem eqIntSS_is : IsEq Try.prog (rSlc (rSlc rInt)) 80 := eqCall_is (agg := false) (sz := 1) c80 elemIntS eqIntS_is
theorem eqSidings_is : IsEq Try.prog rSidings 31 := by
  rintro H cs ds ⟨x0, x1⟩ hrd hrd2 htot
  obtain ⟨v0, v1, rfl, h0, h1⟩ := sidings_rd hrd
  obtain ⟨u0, u1, rfl, l0, l1⟩ := sidings_rd hrd2
  rw [sidings_tot] at htot
  refine Run.intro c31 rfl ?_
  simp only [sidings_val]
  simp (maxSteps := 4000000) (disch := omega) only [Zq, evO, vbox, wr, Zeq, if_true, if_false, Nat.reduceEqDiff, Nat.reduceAdd, Nat.reduceLeDiff, Nat.reduceSub, and_self, and_true, true_and, reduceIte, reduceCtorEq, eq_self, implies_true, forall_const, false_implies, imp_self, decide_true, decide_false, x31, vbinB_ne]
  refine GO_call ((eqIntS_is _ [v0] [u0] x0 ((rSlc rInt).rdk h0 (by repeat' (first | exact Keep.refl _ | assumption | refine Keep.push' ?_ | refine Keep.set' ?_ ?_ | refine Keep.moved' ?_ ?_ | omega))) ((rSlc rInt).rdk l0 (by repeat' (first | exact Keep.refl _ | assumption | refine Keep.push' ?_ | refine Keep.set' ?_ ?_ | refine Keep.moved' ?_ ?_ | omega))) (by omega)).mono ?_)
  rintro _ H1 ⟨k1, rfl⟩
  have n1 := k1.nxt
  have gA1 := k1.get H.nxt (by simp only [Zbg]; omega)
  have gB1 := k1.get (H.nxt + 1) (by simp only [Zbg]; omega)
  simp (maxSteps := 4000000) (disch := omega) only [Zq, evO, vbox, wr, Zeq, if_true, if_false, Nat.reduceEqDiff, Nat.reduceAdd, Nat.reduceLeDiff, Nat.reduceSub, and_self, and_true, true_and, reduceIte, reduceCtorEq, eq_self, implies_true, forall_const, false_implies, imp_self, decide_true, decide_false] at n1 gA1 gB1
  have K1 : Keep H H1 := Keep.trans (by repeat' (first | exact Keep.refl _ | assumption | refine Keep.push' ?_ | refine Keep.set' ?_ ?_ | refine Keep.moved' ?_ ?_ | omega)) k1
  simp (maxSteps := 4000000) (disch := omega) only [Zq, evO, vbox, wr, Zeq, if_true, if_false, Nat.reduceEqDiff, Nat.reduceAdd, Nat.reduceLeDiff, Nat.reduceSub, and_self, and_true, true_and, reduceIte, reduceCtorEq, eq_self, implies_true, forall_const, false_implies, imp_self, decide_true, decide_false, vbinB_ne, gA1, gB1]
  refine GO_call ((eqIntSS_is _ [v1] [u1] x1 ((rSlc (rSlc rInt)).rdk h1 K1) ((rSlc (rSlc rInt)).rdk l1 K1) (by omega)).mono ?_)
  rintro _ H2 ⟨k2, rfl⟩
  have K2 : Keep H H2 := Keep.trans K1 k2
  simp (maxSteps := 4000000) (disch := omega) only [Zq, evO, vbox, wr, Zeq, if_true, if_false, Nat.reduceEqDiff, Nat.reduceAdd, Nat.reduceLeDiff, Nat.reduceSub, and_self, and_true, true_and, reduceIte, reduceCtorEq, eq_self, implies_true, forall_const, false_implies, imp_self, decide_true, decide_false, vbinB_ne, gA1, gB1]
  try exact K2
theorem markIntS_is : IsMark Try.prog (rSlc rInt) (rSlc rInt).mar 46 := markMarkInt_is c46
def markIntSSB : X := (.reg [(.mk (.some 12) (.mov (.tmp 0)) none), (.mk (.some 13) (.mov (.tmp 5)) none), (.mk (.some 14) (.idx 1 (.tmp 12) (.tmp 13)) none), (.mk (.some 15) (.load1 (.tmp 14)) none), (.mk (.some 16) (.mov (.tmp 1)) none), (.mk (.some 17) (.call 46 [(.tmp 15), (.tmp 16)]) none), (.mk (.some 1) (.mov (.tmp 17)) none)])
theorem markIntSSB_is : BMark Try.prog (rSlc rInt) markIntSSB := by
  rintro p i n o k P0 Q0 row x0 F ks Q T H t0 t1 t5 hi hP hp hg hown hnd hpF hk K
  have t0 : T 0 = .slice (some ⟨p, o, none⟩) n 1 := t0
  have hP : P0.length = o + i * 1 := hP
  rw [Nat.mul_one] at hP
  obtain ⟨w0, rfl⟩ := slc_one ((rSlc rInt).ownrd hown)
  have o0 := hown
  have nd0 := hnd
  have lt0 := (rSlc rInt).ownlt o0
  have hp0 : p ∉ F := fun h => hpF (by exact h)
  have q0 : (mid P0 [w0] Q0)[o + i]? = some w0 := by exact mid_get (B := [w0]) (o := 0) hP rfl
  have C0 : Chg (p :: (F)) H H := Chg.refl _ _
  simp (maxSteps := 4000000) (disch := omega) only [Zq, evO, vbox, wr, Zeq, if_true, if_false, Nat.reduceEqDiff, Nat.reduceAdd, Nat.reduceLeDiff, Nat.reduceSub, and_self, and_true, true_and, reduceIte, reduceCtorEq, eq_self, implies_true, forall_const, false_implies, imp_self, decide_true, decide_false, markIntSSB, t0, t1, t5, Zfo hi, Zfo, q0, hg]
  have b0 := mar_le MarB.int x0 (k)
  refine GO_call ((markIntS_is H [w0] x0 F (k) o0 nd0 (by omega)).mono ?_)
  rintro _ H1 ⟨c1, o0, rfl⟩
  have g1 := (c1.get p (by have := c1.nxt; have := C0.nxt; omega) hp0).trans hg
  have C1 := C0.trans (c1.mono (F' := p :: (F)) (fun a ha => by simp [ha]))
  simp (maxSteps := 4000000) (disch := omega) only [Zq, evO, vbox, wr, Zeq, if_true, if_false, Nat.reduceEqDiff, Nat.reduceAdd, Nat.reduceLeDiff, Nat.reduceSub, and_self, and_true, true_and, reduceIte, reduceCtorEq, eq_self, implies_true, forall_const, false_implies, imp_self, decide_true, decide_false, t0, t1, t5, Zfo hi, Zfo, q0, g1]
  refine K _ _ [w0] ?_ ?_ ?_ C1 g1 o0
  · simp (maxSteps := 4000000) (disch := omega) only [Zq, evO, vbox, wr, Zeq, if_true, if_false, Nat.reduceEqDiff, Nat.reduceAdd, Nat.reduceLeDiff, Nat.reduceSub, and_self, and_true, true_and, reduceIte, reduceCtorEq, eq_self, implies_true, forall_const, false_implies, imp_self, decide_true, decide_false, t0]
  · simp (maxSteps := 4000000) (disch := omega) only [Zq, evO, vbox, wr, Zeq, if_true, if_false, Nat.reduceEqDiff, Nat.reduceAdd, Nat.reduceLeDiff, Nat.reduceSub, and_self, and_true, true_and, reduceIte, reduceCtorEq, eq_self, implies_true, forall_const, false_implies, imp_self, decide_true, decide_false, t5]
  · simp (maxSteps := 4000000) (disch := omega) only [Zq, evO, vbox, wr, Zeq, if_true, if_false, Nat.reduceEqDiff, Nat.reduceAdd, Nat.reduceLeDiff, Nat.reduceSub, and_self, and_true, true_and, reduceIte, reduceCtorEq, eq_self, implies_true, forall_const, false_implies, imp_self, decide_true, decide_false, t1]
    try rfl
theorem markIntSS_is : IsMark Try.prog (rSlc (rSlc rInt)) (rSlc (rSlc rInt)).mar 81 := markSlc_is (A := 18) (body := markIntSSB) c81 (MarB.slc MarB.int) markIntSSB_is
def mSidings (x : (List Int) × (List (List Int))) (k : Nat) : ((List Int) × (List (List Int))) × Nat := ((((rSlc rInt).mar x.1 k).1, ((rSlc (rSlc rInt)).mar x.2 ((rSlc rInt).mar x.1 k).2).1), ((rSlc (rSlc rInt)).mar x.2 ((rSlc rInt).mar x.1 k).2).2)
theorem markSidings_is : IsMark Try.prog rSidings mSidings 32 := by
  rintro H cs ⟨x0, x1⟩ F k hown hnd hk
  obtain ⟨v0, v1, F0, F1, rfl, o0, o1, hF⟩ := sidings_own hown
  subst F
  obtain ⟨nd0, l0, dj0⟩ := List.nodup_append.1 hnd
  have nd1 := l0
  have lt0 := (rSlc rInt).ownlt o0
  have lt1 := (rSlc (rSlc rInt)).ownlt o1
  rw [sidings_tot] at hk
  refine Run.intro c32 rfl ?_
  simp only [sidings_val]
  simp (maxSteps := 4000000) (disch := omega) only [Zq, evO, vbox, wr, Zeq, if_true, if_false, Nat.reduceEqDiff, Nat.reduceAdd, Nat.reduceLeDiff, Nat.reduceSub, and_self, and_true, true_and, reduceIte, reduceCtorEq, eq_self, implies_true, forall_const, false_implies, imp_self, decide_true, decide_false, x32]
  generalize hG : H.push [v0, v1] = H0
  have K0 : Keep H H0 := by rw [← hG]; exact Keep.push _ _
  have g0 : H0.get H.nxt = some (.own [v0, v1]) := by rw [← hG, push_get', if_pos rfl]
  have n0 : H.nxt < H0.nxt := by rw [← hG, Zbg]; omega
  have o0 := (rSlc rInt).ownKeep o0 K0
  have o1 := (rSlc (rSlc rInt)).ownKeep o1 K0
  have C0 : Chg (F0 ++ F1) H H0 := K0.chg
  have b0 := mar_le MarB.int x0 (k)
  refine GO_call ((markIntS_is H0 [v0] x0 F0 (k) o0 nd0 (by omega)).mono ?_)
  rintro _ H1 ⟨c1, o0, rfl⟩
  have n1 := c1.nxt
  have o1 := (rSlc (rSlc rInt)).ownChg o1 c1 (fun a ha hm => dj0 a hm a (ha) rfl)
  have C1 := C0.trans (c1.mono (fun a ha => by simp only [List.mem_append]; simp [ha]))
  have g1 := (c1.get H.nxt (by omega) (fun hm => by have := lt0 _ hm; omega)).trans g0
  simp (maxSteps := 4000000) (disch := omega) only [Zq, evO, vbox, wr, Zeq, if_true, if_false, Nat.reduceEqDiff, Nat.reduceAdd, Nat.reduceLeDiff, Nat.reduceSub, and_self, and_true, true_and, reduceIte, reduceCtorEq, eq_self, implies_true, forall_const, false_implies, imp_self, decide_true, decide_false, g1]
  have b1 := mar_le (MarB.slc MarB.int) x1 (((rSlc rInt).mar x0 k).2)
  refine GO_call ((markIntSS_is H1 [v1] x1 F1 (((rSlc rInt).mar x0 k).2) o1 nd1 (by omega)).mono ?_)
  rintro _ H2 ⟨c2, o1, rfl⟩
  have n2 := c2.nxt
  have o0 := (rSlc rInt).ownChg o0 c2 (fun a ha hm => dj0 a ha a (hm) rfl)
  have C2 := C1.trans (c2.mono (fun a ha => by simp only [List.mem_append]; simp [ha]))
  have g2 := (c2.get H.nxt (by omega) (fun hm => by have := lt1 _ hm; omega)).trans g1
  simp (maxSteps := 4000000) (disch := omega) only [Zq, evO, vbox, wr, Zeq, if_true, if_false, Nat.reduceEqDiff, Nat.reduceAdd, Nat.reduceLeDiff, Nat.reduceSub, and_self, and_true, true_and, reduceIte, reduceCtorEq, eq_self, implies_true, forall_const, false_implies, imp_self, decide_true, decide_false, g2]
  exact ⟨C2, sidings_own' o0 o1, rfl⟩
theorem heldIntS_is : IsHeld Try.prog (rSlc rInt) (rSlc rInt).mar 47 := heldHeldInt_is c47
def heldIntSSB : X := (.seq (.reg [(.mk (.some 12) (.mov (.tmp 0)) none), (.mk (.some 13) (.mov (.tmp 5)) none), (.mk (.some 14) (.idx 1 (.tmp 12) (.tmp 13)) none), (.mk (.some 15) (.load1 (.tmp 14)) none), (.mk (.some 16) (.mov (.tmp 1)) none), (.mk (.some 17) (.call 47 [(.tmp 15), (.tmp 16)]) none), (.mk (.some 1) (.mov (.tmp 17)) none)]) (.seq (.reg [(.mk (.some 18) (.mov (.tmp 1)) none), (.mk (.some 19) (.bin (.lss) (.tmp 18) (.const (.int (.i64) 0))) none)]) (.cond (.tmp 19) (.seq (.reg [(.mk (.some 4) (.mov (.const (.int (.i64) (-1)))) none)]) (.ret)) (.skip))))
theorem heldIntSSB_is : BHeld Try.prog (rSlc rInt) heldIntSSB := by
  rintro v i n k cs x0 ks Q T H t0 t1 t5 hi hs hrd hk K
  have hs1 : Sl H v 1 n cs := hs
  obtain ⟨w0, hrow⟩ := slc_one hrd
  rw [hrow] at hrd
  have hrow : (cs.drop (i * 1)).take 1 = [w0] := hrow
  have h0 := hrd
  have q0 : cs[i * 1 + 0]? = some (w0) := row_get hrow (by omega) rfl
  have l0_0 := Sl.ld hs1 hi q0
  have K0 : Keep H H := Keep.refl H
  simp (maxSteps := 4000000) (disch := omega) only [Zq, evO, vbox, wr, Zeq, if_true, if_false, Nat.reduceEqDiff, Nat.reduceAdd, Nat.reduceLeDiff, Nat.reduceSub, and_self, and_true, true_and, reduceIte, reduceCtorEq, eq_self, implies_true, forall_const, false_implies, imp_self, decide_true, decide_false, heldIntSSB, t0, t1, t5, Sl.len_ hs1, Sl.idx hs1 hi, Sl.fad hs1 hi, l0_0]
  have b0 := mar_le MarB.int x0 (k)
  refine GO_call ((heldIntS_is H [w0] x0 (k) ((rSlc rInt).rdk h0 K0) (by omega)).mono ?_)
  rintro _ H1 ⟨k1, rfl⟩
  have K1 := K0.trans k1
  have hs1_1 := hs1.keep K1
  have l0_1 := Sl.ld hs1_1 hi q0
  simp (maxSteps := 4000000) (disch := omega) only [Zq, evO, vbox, wr, Zeq, if_true, if_false, Nat.reduceEqDiff, Nat.reduceAdd, Nat.reduceLeDiff, Nat.reduceSub, and_self, and_true, true_and, reduceIte, reduceCtorEq, eq_self, implies_true, forall_const, false_implies, imp_self, decide_true, decide_false, t0, t1, t5, Sl.len_ hs1, Sl.idx hs1 hi, Sl.fad hs1 hi, l0_1]
  refine K _ _ ?_ ?_ ?_ K1
  · simp (maxSteps := 4000000) (disch := omega) only [Zq, evO, vbox, wr, Zeq, if_true, if_false, Nat.reduceEqDiff, Nat.reduceAdd, Nat.reduceLeDiff, Nat.reduceSub, and_self, and_true, true_and, reduceIte, reduceCtorEq, eq_self, implies_true, forall_const, false_implies, imp_self, decide_true, decide_false, t0]
  · simp (maxSteps := 4000000) (disch := omega) only [Zq, evO, vbox, wr, Zeq, if_true, if_false, Nat.reduceEqDiff, Nat.reduceAdd, Nat.reduceLeDiff, Nat.reduceSub, and_self, and_true, true_and, reduceIte, reduceCtorEq, eq_self, implies_true, forall_const, false_implies, imp_self, decide_true, decide_false, t5]
  · simp (maxSteps := 4000000) (disch := omega) only [Zq, evO, vbox, wr, Zeq, if_true, if_false, Nat.reduceEqDiff, Nat.reduceAdd, Nat.reduceLeDiff, Nat.reduceSub, and_self, and_true, true_and, reduceIte, reduceCtorEq, eq_self, implies_true, forall_const, false_implies, imp_self, decide_true, decide_false, t1]
    try rfl
theorem heldIntSS_is : IsHeld Try.prog (rSlc (rSlc rInt)) (rSlc (rSlc rInt)).mar 82 := heldSlc_is (A := 20) (body := heldIntSSB) c82 (MarB.slc MarB.int) heldIntSSB_is
theorem heldSidings_is : IsHeld Try.prog rSidings mSidings 33 := by
  rintro H cs ⟨x0, x1⟩ k hrd hk
  obtain ⟨v0, v1, rfl, h0, h1⟩ := sidings_rd hrd
  rw [sidings_tot] at hk
  refine Run.intro c33 rfl ?_
  simp only [sidings_val]
  simp (maxSteps := 4000000) (disch := omega) only [Zq, evO, vbox, wr, Zeq, if_true, if_false, Nat.reduceEqDiff, Nat.reduceAdd, Nat.reduceLeDiff, Nat.reduceSub, and_self, and_true, true_and, reduceIte, reduceCtorEq, eq_self, implies_true, forall_const, false_implies, imp_self, decide_true, decide_false, x33]
  generalize hG : H.push [v0, v1] = H0
  have K0 : Keep H H0 := by rw [← hG]; exact Keep.push _ _
  have g0 : H0.get H.nxt = some (.own [v0, v1]) := by rw [← hG, push_get', if_pos rfl]
  have n0 : H.nxt < H0.nxt := by rw [← hG, Zbg]; omega
  have b0 := mar_le MarB.int x0 (k)
  refine GO_call ((heldIntS_is H0 [v0] x0 (k) ((rSlc rInt).rdk h0 K0) (by omega)).mono ?_)
  rintro _ H1 ⟨k1, rfl⟩
  have n1 := k1.nxt
  have K1 := K0.trans k1
  have g1 := (k1.get H.nxt (by omega)).trans g0
  simp (maxSteps := 4000000) (disch := omega) only [Zq, evO, vbox, wr, Zeq, if_true, if_false, Nat.reduceEqDiff, Nat.reduceAdd, Nat.reduceLeDiff, Nat.reduceSub, and_self, and_true, true_and, reduceIte, reduceCtorEq, eq_self, implies_true, forall_const, false_implies, imp_self, decide_true, decide_false, g1]
  have b1 := mar_le (MarB.slc MarB.int) x1 (((rSlc rInt).mar x0 k).2)
  refine GO_call ((heldIntSS_is H1 [v1] x1 (((rSlc rInt).mar x0 k).2) ((rSlc (rSlc rInt)).rdk h1 K1) (by omega)).mono ?_)
  rintro _ H2 ⟨k2, rfl⟩
  have n2 := k2.nxt
  have K2 := K1.trans k2
  have g2 := (k2.get H.nxt (by omega)).trans g1
  simp (maxSteps := 4000000) (disch := omega) only [Zq, evO, vbox, wr, Zeq, if_true, if_false, Nat.reduceEqDiff, Nat.reduceAdd, Nat.reduceLeDiff, Nat.reduceSub, and_self, and_true, true_and, reduceIte, reduceCtorEq, eq_self, implies_true, forall_const, false_implies, imp_self, decide_true, decide_false, g2]
  exact ⟨K2, rfl⟩
-- Shunt
def shuntC (x : Int × Int × Int) : List Value := [.int .i64 x.1, .int .i64 x.2.1, .int .i64 x.2.2]
theorem shuntC_len (x : Int × Int × Int) : (shuntC x).length = 3 := rfl
def shuntM (x : Int × Int × Int) (k : Nat) : (Int × Int × Int) × Nat := ((((k + 0 : Nat) : Int), ((k + 1 : Nat) : Int), ((k + 2 : Nat) : Int)), k + 3)
abbrev rShunt : Rep (Int × Int × Int) := flatRep shuntC 3 shuntC_len shuntM
theorem shunt_val (x : Int × Int × Int) : rShunt.val (shuntC x) = .agg #[.int .i64 x.1, .int .i64 x.2.1, .int .i64 x.2.2] := nofl rfl
theorem marB_Shunt : MarB rShunt := fun x k => by show k + 3 ≤ _; omega
theorem szShuntS_is : IsSz Try.prog (rSlc rShunt) 41 := szFlat_is c41 (fun _ => rfl)
theorem toShunt_is : IsTo Try.prog rShunt 29 := by
  intro H cs a hrd _
  have e : cs = shuntC a := hrd
  subst e
  refine Run.intro c29 rfl ?_
  simp only [shunt_val]
  simp (maxSteps := 4000000) (disch := omega) only [Zq, evO, vbox, wr, Zeq, if_true, if_false, Nat.reduceEqDiff, Nat.reduceAdd, Nat.reduceLeDiff, Nat.reduceSub, and_self, and_true, true_and, reduceIte, reduceCtorEq, eq_self, implies_true, forall_const, false_implies, imp_self, decide_true, decide_false, x29]
  exact ⟨by repeat' (first | exact Keep.refl _ | assumption | refine Keep.push' ?_ | refine Keep.set' ?_ ?_ | refine Keep.moved' ?_ ?_ | omega), shuntC a, [], rfl, ⟨rfl, rfl⟩, List.nodup_nil, fun i hi => by cases hi⟩
theorem elemShunt : Elem rShunt true 3 := ⟨rfl, by omega, fun _ _ => rfl, fun h => by cases h⟩
theorem toShuntS_is : IsTo Try.prog (rSlc rShunt) 42 := toCall_is (agg := true) (sz := 3) (bytes := 24) (zs := [.int .i64 0, .int .i64 0, .int .i64 0]) c42 (by omega) rfl elemShunt toShunt_is
theorem eqShunt_is : IsEq Try.prog rShunt 88 := by
  intro H cs ds a hrd hrd2 _
  have e : cs = shuntC a := hrd
  have e2 : ds = shuntC a := hrd2
  subst e e2
  refine Run.intro c88 rfl ?_
  simp only [shunt_val]
  simp (maxSteps := 4000000) (disch := omega) only [Zq, evO, vbox, wr, Zeq, if_true, if_false, Nat.reduceEqDiff, Nat.reduceAdd, Nat.reduceLeDiff, Nat.reduceSub, and_self, and_true, true_and, reduceIte, reduceCtorEq, eq_self, implies_true, forall_const, false_implies, imp_self, decide_true, decide_false, x88, vbinB_ne]
  try repeat' (first | exact Keep.refl _ | assumption | refine Keep.push' ?_ | refine Keep.set' ?_ ?_ | refine Keep.moved' ?_ ?_ | omega)
theorem eqShuntS_is : IsEq Try.prog (rSlc rShunt) 44 := eqCall_is (agg := true) (sz := 3) c44 elemShunt eqShunt_is
def markShuntSB : X := (.seq (.reg [(.mk (.some 12) (.mov (.tmp 0)) none), (.mk (.some 13) (.mov (.tmp 5)) none), (.mk (.some 14) (.mov (.tmp 1)) none), (.mk (.some 15) (.idx 3 (.tmp 12) (.tmp 13)) none), (.mk (.some 16) (.fad 0 (.tmp 15)) none), (.mk none (.store 1 (.tmp 16) (.tmp 14)) none)]) (.seq (.reg [(.mk (.some 17) (.mov (.tmp 1)) none), (.mk (.some 18) (.bin (.add) (.tmp 17) (.const (.int (.i64) 1))) none), (.mk (.some 1) (.mov (.tmp 18)) none)]) (.seq (.reg [(.mk (.some 19) (.mov (.tmp 0)) none), (.mk (.some 20) (.mov (.tmp 5)) none), (.mk (.some 21) (.mov (.tmp 1)) none), (.mk (.some 22) (.idx 3 (.tmp 19) (.tmp 20)) none), (.mk (.some 23) (.fad 1 (.tmp 22)) none), (.mk none (.store 1 (.tmp 23) (.tmp 21)) none)]) (.seq (.reg [(.mk (.some 24) (.mov (.tmp 1)) none), (.mk (.some 25) (.bin (.add) (.tmp 24) (.const (.int (.i64) 1))) none), (.mk (.some 1) (.mov (.tmp 25)) none)]) (.seq (.reg [(.mk (.some 26) (.mov (.tmp 0)) none), (.mk (.some 27) (.mov (.tmp 5)) none), (.mk (.some 28) (.mov (.tmp 1)) none), (.mk (.some 29) (.idx 3 (.tmp 26) (.tmp 27)) none), (.mk (.some 30) (.fad 2 (.tmp 29)) none), (.mk none (.store 1 (.tmp 30) (.tmp 28)) none)]) (.reg [(.mk (.some 31) (.mov (.tmp 1)) none), (.mk (.some 32) (.bin (.add) (.tmp 31) (.const (.int (.i64) 1))) none), (.mk (.some 1) (.mov (.tmp 32)) none)]))))))
theorem markShuntSB_is : BMark Try.prog rShunt markShuntSB := by
  rintro p i n o k P0 Q0 row ⟨x0, x1, x2⟩ F ks Q T H t0 t1 t5 hi hP hp hg hown hnd hpF hk K
  have t0 : T 0 = .slice (some ⟨p, o, none⟩) n 3 := t0
  have hP : P0.length = o + i * 3 := hP
  obtain ⟨e0, e1⟩ : row = [.int .i64 x0, .int .i64 x1, .int .i64 x2] ∧ F = [] := hown
  subst e0 e1
  have s0 : ∀ H1 : Heap, stO H1 1 p (o + i * 3) (.int .i64 ((k : Nat) : Int)) (some (.own (mid P0 [.int .i64 x0, .int .i64 x1, .int .i64 x2] Q0))) = some (undef, H1.set p (mid P0 [.int .i64 ((k : Nat) : Int), .int .i64 x1, .int .i64 x2] Q0)) := fun H1 => by exact stO_mid (B := [.int .i64 x0, .int .i64 x1, .int .i64 x2]) (o := 0) rfl hP (by simp)
  have s1 : ∀ H1 : Heap, stO H1 1 p (o + (i * 3 + 1)) (.int .i64 (((k + 1) : Nat) : Int)) (some (.own (mid P0 [.int .i64 ((k : Nat) : Int), .int .i64 x1, .int .i64 x2] Q0))) = some (undef, H1.set p (mid P0 [.int .i64 ((k : Nat) : Int), .int .i64 (((k + 1) : Nat) : Int), .int .i64 x2] Q0)) := fun H1 => by rw [← Nat.add_assoc]; exact stO_mid (B := [.int .i64 ((k : Nat) : Int), .int .i64 x1, .int .i64 x2]) (o := 1) rfl hP (by simp)
  have s2 : ∀ H1 : Heap, stO H1 1 p (o + (i * 3 + 2)) (.int .i64 ((((k + 1) + 1) : Nat) : Int)) (some (.own (mid P0 [.int .i64 ((k : Nat) : Int), .int .i64 (((k + 1) : Nat) : Int), .int .i64 x2] Q0))) = some (undef, H1.set p (mid P0 [.int .i64 ((k : Nat) : Int), .int .i64 (((k + 1) : Nat) : Int), .int .i64 ((((k + 1) + 1) : Nat) : Int)] Q0)) := fun H1 => by rw [← Nat.add_assoc]; exact stO_mid (B := [.int .i64 ((k : Nat) : Int), .int .i64 (((k + 1) : Nat) : Int), .int .i64 x2]) (o := 2) rfl hP (by simp)
  have C0 : Chg (p :: ([])) H H := Chg.refl _ _
  simp (maxSteps := 4000000) (disch := omega) only [Zq, evO, vbox, wr, Zeq, if_true, if_false, Nat.reduceEqDiff, Nat.reduceAdd, Nat.reduceLeDiff, Nat.reduceSub, and_self, and_true, true_and, reduceIte, reduceCtorEq, eq_self, implies_true, forall_const, false_implies, imp_self, decide_true, decide_false, markShuntSB, t0, t1, t5, Zfo hi, Zfo, s0, s1, s2, hg]
  refine K _ _ [.int .i64 ((k : Nat) : Int), .int .i64 (((k + 1) : Nat) : Int), .int .i64 ((((k + 1) + 1) : Nat) : Int)] ?_ ?_ ?_ ?_ ?_ ⟨rfl, rfl⟩
  · simp (maxSteps := 4000000) (disch := omega) only [Zq, evO, vbox, wr, Zeq, if_true, if_false, Nat.reduceEqDiff, Nat.reduceAdd, Nat.reduceLeDiff, Nat.reduceSub, and_self, and_true, true_and, reduceIte, reduceCtorEq, eq_self, implies_true, forall_const, false_implies, imp_self, decide_true, decide_false, t0]
  · simp (maxSteps := 4000000) (disch := omega) only [Zq, evO, vbox, wr, Zeq, if_true, if_false, Nat.reduceEqDiff, Nat.reduceAdd, Nat.reduceLeDiff, Nat.reduceSub, and_self, and_true, true_and, reduceIte, reduceCtorEq, eq_self, implies_true, forall_const, false_implies, imp_self, decide_true, decide_false, t5]
  · simp (maxSteps := 4000000) (disch := omega) only [Zq, evO, vbox, wr, Zeq, if_true, if_false, Nat.reduceEqDiff, Nat.reduceAdd, Nat.reduceLeDiff, Nat.reduceSub, and_self, and_true, true_and, reduceIte, reduceCtorEq, eq_self, implies_true, forall_const, false_implies, imp_self, decide_true, decide_false, t1]
    try rfl
  · repeat' (first | exact Chg.refl _ _ | refine Chg.trans ?_ (Chg.set (by simp)))
  · simp only [Zbi, if_true]
theorem markShuntS_is : IsMark Try.prog (rSlc rShunt) (rSlc rShunt).mar 45 := markSlc_is (A := 33) (body := markShuntSB) c45 marB_Shunt markShuntSB_is
end Go.Proofs.Ytiajbefljkikiaa.AX
