/- Telegrams: whether they are right, whether they are taken, and the count of axles. No condition beyond each law's own; of the program: the functions' forms. -/
import Derived.Test.YtiajbefljkikiaaRtel
import Derived.Test.YtiajbefljkikiaaBas
namespace Go.Proofs.Ytiajbefljkikiaa.AX
open Go
set_option maxRecDepth 10000
set_option maxHeartbeats 4000000
set_option linter.unusedSimpArgs false
set_option linter.unusedVariables false
abbrev Tel := Int × Int × List Int
def okTel (a b : Int) (n : Nat) : Bool := inR 0 255 a && inR 0 15 b && decide (n ≤ 60)
def okT (t : Tel) : Bool := okTel t.1 t.2.1 t.2.2.length
theorem r_spec_TelegramOk {H : Heap} {a b : Int} {v : Value} {l : List Int} (h : (rSlc rByte).rd H [v] l) : Run Try.prog 57 [.agg #[.int .i64 a, .int .i64 b, v]] H fun r H' => Keep H H' ∧ r = .bool (okTel a b l.length) := by
  have hs := bts_of h
  refine Run.intro c57 rfl ?_
  simp (maxSteps := 4000000) (disch := omega) only [Zq, evO, vbox, wr, Zeq, if_true, if_false, Nat.reduceEqDiff, Nat.reduceAdd, Nat.reduceLeDiff, Nat.reduceSub, and_self, and_true, true_and, reduceIte, reduceCtorEq, eq_self, implies_true, forall_const, false_implies, imp_self, decide_true, decide_false, x57]
  generalize hG0 : H.push [.int .i64 a, .int .i64 b, v] = H0
  have k0 : Keep H H0 := by rw [← hG0]; exact Keep.push _ _
  have g0 : H0.get H.nxt = some (.own [.int .i64 a, .int .i64 b, v]) := by rw [← hG0, push_get', if_pos rfl]
  have n0 : H0.nxt = H.nxt + 1 := by rw [← hG0, Zbg]
  refine GO_call ((r_spec_l01In a 0 255 _).mono ?_)
  rintro _ H1 ⟨k1, rfl⟩
  have n1 := k1.nxt
  have g1 := (k1.get (H.nxt) (by omega)).trans g0
  by_cases ha : inR 0 255 a = true
  · simp (maxSteps := 4000000) (disch := omega) only [Zq, evO, vbox, wr, Zeq, if_true, if_false, Nat.reduceEqDiff, Nat.reduceAdd, Nat.reduceLeDiff, Nat.reduceSub, and_self, and_true, true_and, reduceIte, reduceCtorEq, eq_self, implies_true, forall_const, false_implies, imp_self, decide_true, decide_false, fix_nil, fix_cons, g0, g1, ha]
    refine GO_call ((r_spec_l01In b 0 15 _).mono ?_)
    rintro _ H2 ⟨k2, rfl⟩
    have n2 := k2.nxt
    have g2 := (k2.get (H.nxt) (by omega)).trans g1
    by_cases hb : inR 0 15 b = true
    · by_cases hn : l.length ≤ 60
      · simp (maxSteps := 4000000) (disch := omega) only [Zq, evO, vbox, wr, Zeq, if_true, if_false, Nat.reduceEqDiff, Nat.reduceAdd, Nat.reduceLeDiff, Nat.reduceSub, and_self, and_true, true_and, reduceIte, reduceCtorEq, eq_self, implies_true, forall_const, false_implies, imp_self, decide_true, decide_false, fix_nil, fix_cons, g0, g1, g2, hb, hs.len_]
        exact ⟨k0.trans (k1.trans k2), by simp [okTel, ha, hb, hn]⟩
      · simp (maxSteps := 4000000) (disch := omega) only [Zq, evO, vbox, wr, Zeq, if_true, if_false, Nat.reduceEqDiff, Nat.reduceAdd, Nat.reduceLeDiff, Nat.reduceSub, and_self, and_true, true_and, reduceIte, reduceCtorEq, eq_self, implies_true, forall_const, false_implies, imp_self, decide_true, decide_false, fix_nil, fix_cons, g0, g1, g2, hb, hs.len_]
        exact ⟨k0.trans (k1.trans k2), by simp [okTel, ha, hb, hn]⟩
    · have hb' : inR 0 15 b = false := by simpa using hb
      simp (maxSteps := 4000000) (disch := omega) only [Zq, evO, vbox, wr, Zeq, if_true, if_false, Nat.reduceEqDiff, Nat.reduceAdd, Nat.reduceLeDiff, Nat.reduceSub, and_self, and_true, true_and, reduceIte, reduceCtorEq, eq_self, implies_true, forall_const, false_implies, imp_self, decide_true, decide_false, fix_nil, fix_cons, g0, g1, g2, hb', hs.len_]
      exact ⟨k0.trans (k1.trans k2), by simp [okTel, ha, hb']⟩
  · have ha' : inR 0 255 a = false := by simpa using ha
    simp (maxSteps := 4000000) (disch := omega) only [Zq, evO, vbox, wr, Zeq, if_true, if_false, Nat.reduceEqDiff, Nat.reduceAdd, Nat.reduceLeDiff, Nat.reduceSub, and_self, and_true, true_and, reduceIte, reduceCtorEq, eq_self, implies_true, forall_const, false_implies, imp_self, decide_true, decide_false, fix_nil, fix_cons, g0, g1, ha']
    exact ⟨k0.trans k1, by simp [okTel, ha']⟩
theorem r_impl_TelegramOk {H : Heap} {a b : Int} {v : Value} {l : List Int} (h : (rSlc rByte).rd H [v] l) : Run Try.prog 60 [.agg #[.int .i64 a, .int .i64 b, v]] H fun r H' => Keep H H' ∧ r = .bool (okTel a b l.length) := by
  have hs := bts_of h
  refine Run.intro c60 rfl ?_
  simp (maxSteps := 4000000) (disch := omega) only [Zq, evO, vbox, wr, Zeq, if_true, if_false, Nat.reduceEqDiff, Nat.reduceAdd, Nat.reduceLeDiff, Nat.reduceSub, and_self, and_true, true_and, reduceIte, reduceCtorEq, eq_self, implies_true, forall_const, false_implies, imp_self, decide_true, decide_false, x60]
  generalize hG0 : H.push [.int .i64 a, .int .i64 b, v] = H0
  have k0 : Keep H H0 := by rw [← hG0]; exact Keep.push _ _
  have g0 : H0.get H.nxt = some (.own [.int .i64 a, .int .i64 b, v]) := by rw [← hG0, push_get', if_pos rfl]
  have n0 : H0.nxt = H.nxt + 1 := by rw [← hG0, Zbg]
  refine GO_call ((r_impl_between a 0 255 _).mono ?_)
  rintro _ H1 ⟨k1, rfl⟩
  have n1 := k1.nxt
  have g1 := (k1.get (H.nxt) (by omega)).trans g0
  by_cases ha : inR 0 255 a = true
  · simp (maxSteps := 4000000) (disch := omega) only [Zq, evO, vbox, wr, Zeq, if_true, if_false, Nat.reduceEqDiff, Nat.reduceAdd, Nat.reduceLeDiff, Nat.reduceSub, and_self, and_true, true_and, reduceIte, reduceCtorEq, eq_self, implies_true, forall_const, false_implies, imp_self, decide_true, decide_false, fix_nil, fix_cons, g0, g1, ha]
    refine GO_call ((r_impl_between b 0 15 _).mono ?_)
    rintro _ H2 ⟨k2, rfl⟩
    have n2 := k2.nxt
    have g2 := (k2.get (H.nxt) (by omega)).trans g1
    by_cases hb : inR 0 15 b = true
    · by_cases hn : l.length ≤ 60
      · simp (maxSteps := 4000000) (disch := omega) only [Zq, evO, vbox, wr, Zeq, if_true, if_false, Nat.reduceEqDiff, Nat.reduceAdd, Nat.reduceLeDiff, Nat.reduceSub, and_self, and_true, true_and, reduceIte, reduceCtorEq, eq_self, implies_true, forall_const, false_implies, imp_self, decide_true, decide_false, fix_nil, fix_cons, g0, g1, g2, hb, hs.len_]
        exact ⟨k0.trans (k1.trans k2), by simp [okTel, ha, hb, hn]⟩
      · simp (maxSteps := 4000000) (disch := omega) only [Zq, evO, vbox, wr, Zeq, if_true, if_false, Nat.reduceEqDiff, Nat.reduceAdd, Nat.reduceLeDiff, Nat.reduceSub, and_self, and_true, true_and, reduceIte, reduceCtorEq, eq_self, implies_true, forall_const, false_implies, imp_self, decide_true, decide_false, fix_nil, fix_cons, g0, g1, g2, hb, hs.len_]
        exact ⟨k0.trans (k1.trans k2), by simp [okTel, ha, hb, hn]⟩
    · have hb' : inR 0 15 b = false := by simpa using hb
      simp (maxSteps := 4000000) (disch := omega) only [Zq, evO, vbox, wr, Zeq, if_true, if_false, Nat.reduceEqDiff, Nat.reduceAdd, Nat.reduceLeDiff, Nat.reduceSub, and_self, and_true, true_and, reduceIte, reduceCtorEq, eq_self, implies_true, forall_const, false_implies, imp_self, decide_true, decide_false, fix_nil, fix_cons, g0, g1, g2, hb', hs.len_]
      exact ⟨k0.trans (k1.trans k2), by simp [okTel, ha, hb']⟩
  · have ha' : inR 0 255 a = false := by simpa using ha
    simp (maxSteps := 4000000) (disch := omega) only [Zq, evO, vbox, wr, Zeq, if_true, if_false, Nat.reduceEqDiff, Nat.reduceAdd, Nat.reduceLeDiff, Nat.reduceSub, and_self, and_true, true_and, reduceIte, reduceCtorEq, eq_self, implies_true, forall_const, false_implies, imp_self, decide_true, decide_false, fix_nil, fix_cons, g0, g1, ha']
    exact ⟨k0.trans k1, by simp [okTel, ha']⟩
def accR (last seq : Int) : Int := if (inR 0 255 last && inR 0 255 seq) = true then (if seq = (last + 1).tmod 256 then 0 else if seq = last then 1 else 2) else 2
theorem accR_bad {last seq : Int} (h : inR 0 255 last = false ∨ inR 0 255 seq = false) : accR last seq = 2 := by
  rcases h with h | h <;> simp [accR, h]
theorem accR_ok {last seq : Int} (h : inR 0 255 last = true) (h' : inR 0 255 seq = true) : accR last seq = if seq = (last + 1).tmod 256 then 0 else if seq = last then 1 else 2 := by simp [accR, h, h']
theorem r_spec_Accept (last seq : Int) (H : Heap) : Run Try.prog 58 [.int .i64 last, .int .i64 seq] H fun r H' => Keep H H' ∧ r = .int .i64 (accR last seq) := by
  refine Run.intro c58 rfl ?_
  simp (maxSteps := 4000000) (disch := omega) only [Zq, evO, vbox, wr, Zeq, if_true, if_false, Nat.reduceEqDiff, Nat.reduceAdd, Nat.reduceLeDiff, Nat.reduceSub, and_self, and_true, true_and, reduceIte, reduceCtorEq, eq_self, implies_true, forall_const, false_implies, imp_self, decide_true, decide_false, x58]
  refine GO_call ((r_spec_l01In last 0 255 _).mono ?_)
  rintro _ H1 ⟨k1, rfl⟩
  have n1 := k1.nxt
  by_cases ha : inR 0 255 last = true
  · simp (maxSteps := 4000000) (disch := omega) only [Zq, evO, vbox, wr, Zeq, if_true, if_false, Nat.reduceEqDiff, Nat.reduceAdd, Nat.reduceLeDiff, Nat.reduceSub, and_self, and_true, true_and, reduceIte, reduceCtorEq, eq_self, implies_true, forall_const, false_implies, imp_self, decide_true, decide_false, fix_nil, fix_cons, ha]
    refine GO_call ((r_spec_l01In seq 0 255 _).mono ?_)
    rintro _ H2 ⟨k2, rfl⟩
    have n2 := k2.nxt
    by_cases hb : inR 0 255 seq = true
    · have hl := inR_iff.1 ha
      by_cases h1 : seq = (last + 1).tmod 256
      · simp (maxSteps := 4000000) (disch := omega) only [Zq, evO, vbox, wr, Zeq, if_true, if_false, Nat.reduceEqDiff, Nat.reduceAdd, Nat.reduceLeDiff, Nat.reduceSub, and_self, and_true, true_and, reduceIte, reduceCtorEq, eq_self, implies_true, forall_const, false_implies, imp_self, decide_true, decide_false, fix_nil, fix_cons, hb, wrap64, abin_rem]
        exact ⟨k1.trans k2, by rw [accR_ok ha hb, if_pos h1]⟩
      · by_cases h2 : seq = last
        · simp (maxSteps := 4000000) (disch := omega) only [Zq, evO, vbox, wr, Zeq, if_true, if_false, Nat.reduceEqDiff, Nat.reduceAdd, Nat.reduceLeDiff, Nat.reduceSub, and_self, and_true, true_and, reduceIte, reduceCtorEq, eq_self, implies_true, forall_const, false_implies, imp_self, decide_true, decide_false, fix_nil, fix_cons, hb, wrap64, abin_rem]
          exact ⟨k1.trans k2, by rw [accR_ok ha hb, if_neg h1, if_pos h2]⟩
        · simp (maxSteps := 4000000) (disch := omega) only [Zq, evO, vbox, wr, Zeq, if_true, if_false, Nat.reduceEqDiff, Nat.reduceAdd, Nat.reduceLeDiff, Nat.reduceSub, and_self, and_true, true_and, reduceIte, reduceCtorEq, eq_self, implies_true, forall_const, false_implies, imp_self, decide_true, decide_false, fix_nil, fix_cons, hb, wrap64, abin_rem]
          exact ⟨k1.trans k2, by rw [accR_ok ha hb, if_neg h1, if_neg h2]⟩
    · have hb' : inR 0 255 seq = false := by simpa using hb
      simp (maxSteps := 4000000) (disch := omega) only [Zq, evO, vbox, wr, Zeq, if_true, if_false, Nat.reduceEqDiff, Nat.reduceAdd, Nat.reduceLeDiff, Nat.reduceSub, and_self, and_true, true_and, reduceIte, reduceCtorEq, eq_self, implies_true, forall_const, false_implies, imp_self, decide_true, decide_false, fix_nil, fix_cons, hb']
      exact ⟨k1.trans k2, by rw [accR_bad (.inr hb')]⟩
  · have ha' : inR 0 255 last = false := by simpa using ha
    simp (maxSteps := 4000000) (disch := omega) only [Zq, evO, vbox, wr, Zeq, if_true, if_false, Nat.reduceEqDiff, Nat.reduceAdd, Nat.reduceLeDiff, Nat.reduceSub, and_self, and_true, true_and, reduceIte, reduceCtorEq, eq_self, implies_true, forall_const, false_implies, imp_self, decide_true, decide_false, fix_nil, fix_cons, ha']
    exact ⟨k1, by rw [accR_bad (.inl ha')]⟩
theorem r_impl_Accept (last seq : Int) (H : Heap) : Run Try.prog 17 [.int .i64 last, .int .i64 seq] H fun r H' => Keep H H' ∧ r = .int .i64 (accR last seq) := by
  refine Run.intro c17 rfl ?_
  simp (maxSteps := 4000000) (disch := omega) only [Zq, evO, vbox, wr, Zeq, if_true, if_false, Nat.reduceEqDiff, Nat.reduceAdd, Nat.reduceLeDiff, Nat.reduceSub, and_self, and_true, true_and, reduceIte, reduceCtorEq, eq_self, implies_true, forall_const, false_implies, imp_self, decide_true, decide_false, x17]
  refine GO_call ((r_impl_between last 0 255 _).mono ?_)
  rintro _ H1 ⟨k1, rfl⟩
  have n1 := k1.nxt
  by_cases ha : inR 0 255 last = true
  · simp (maxSteps := 4000000) (disch := omega) only [Zq, evO, vbox, wr, Zeq, if_true, if_false, Nat.reduceEqDiff, Nat.reduceAdd, Nat.reduceLeDiff, Nat.reduceSub, and_self, and_true, true_and, reduceIte, reduceCtorEq, eq_self, implies_true, forall_const, false_implies, imp_self, decide_true, decide_false, fix_nil, fix_cons, ha]
    refine GO_call ((r_impl_between seq 0 255 _).mono ?_)
    rintro _ H2 ⟨k2, rfl⟩
    have n2 := k2.nxt
    by_cases hb : inR 0 255 seq = true
    · have hl := inR_iff.1 ha
      by_cases h1 : seq = (last + 1).tmod 256
      · simp (maxSteps := 4000000) (disch := omega) only [Zq, evO, vbox, wr, Zeq, if_true, if_false, Nat.reduceEqDiff, Nat.reduceAdd, Nat.reduceLeDiff, Nat.reduceSub, and_self, and_true, true_and, reduceIte, reduceCtorEq, eq_self, implies_true, forall_const, false_implies, imp_self, decide_true, decide_false, fix_nil, fix_cons, hb, wrap64, abin_rem]
        exact ⟨k1.trans k2, by rw [accR_ok ha hb, if_pos h1]⟩
      · by_cases h2 : seq = last
        · simp (maxSteps := 4000000) (disch := omega) only [Zq, evO, vbox, wr, Zeq, if_true, if_false, Nat.reduceEqDiff, Nat.reduceAdd, Nat.reduceLeDiff, Nat.reduceSub, and_self, and_true, true_and, reduceIte, reduceCtorEq, eq_self, implies_true, forall_const, false_implies, imp_self, decide_true, decide_false, fix_nil, fix_cons, hb, wrap64, abin_rem]
          exact ⟨k1.trans k2, by rw [accR_ok ha hb, if_neg h1, if_pos h2]⟩
        · simp (maxSteps := 4000000) (disch := omega) only [Zq, evO, vbox, wr, Zeq, if_true, if_false, Nat.reduceEqDiff, Nat.reduceAdd, Nat.reduceLeDiff, Nat.reduceSub, and_self, and_true, true_and, reduceIte, reduceCtorEq, eq_self, implies_true, forall_const, false_implies, imp_self, decide_true, decide_false, fix_nil, fix_cons, hb, wrap64, abin_rem]
          exact ⟨k1.trans k2, by rw [accR_ok ha hb, if_neg h1, if_neg h2]⟩
    · have hb' : inR 0 255 seq = false := by simpa using hb
      simp (maxSteps := 4000000) (disch := omega) only [Zq, evO, vbox, wr, Zeq, if_true, if_false, Nat.reduceEqDiff, Nat.reduceAdd, Nat.reduceLeDiff, Nat.reduceSub, and_self, and_true, true_and, reduceIte, reduceCtorEq, eq_self, implies_true, forall_const, false_implies, imp_self, decide_true, decide_false, fix_nil, fix_cons, hb']
      exact ⟨k1.trans k2, by rw [accR_bad (.inr hb')]⟩
  · have ha' : inR 0 255 last = false := by simpa using ha
    simp (maxSteps := 4000000) (disch := omega) only [Zq, evO, vbox, wr, Zeq, if_true, if_false, Nat.reduceEqDiff, Nat.reduceAdd, Nat.reduceLeDiff, Nat.reduceSub, and_self, and_true, true_and, reduceIte, reduceCtorEq, eq_self, implies_true, forall_const, false_implies, imp_self, decide_true, decide_false, fix_nil, fix_cons, ha']
    exact ⟨k1, by rw [accR_bad (.inl ha')]⟩
def cntN (l : List Int) : Int := if 0 < l.length then IntKind.i64.wrap (l.getD 0 0) else 0
def cntS (c kind n : Int) : Int := if kind = 3 then 0 else if kind = 1 ∧ 0 ≤ c then IntKind.i64.wrap (c + n) else if kind = 2 ∧ 0 ≤ c then (if IntKind.i64.wrap (c - n) < 0 then -1 else IntKind.i64.wrap (c - n)) else c
def cntR (c kind : Int) (l : List Int) : Int := cntS c kind (cntN l)
theorem cntS_2 {c b n : Int} (h2 : b = 2) (hc : 0 ≤ c) : cntS c b n = if IntKind.i64.wrap (c - n) < -1 then -1 else IntKind.i64.wrap (c - n) := by
  subst h2
  rw [cntS, if_neg (by omega), if_neg (by omega), if_pos ⟨rfl, hc⟩]
  split <;> split <;> omega
theorem vmm_max {H : Heap} {k : IntKind} {a b : Int} : vmm H true (.int k a) (.int k b) = some (.int k (if a < b then b else a), H) := by
  simp [vmm]
theorem r_impl_counted {H : Heap} {c a b : Int} {v : Value} {l : List Int} (h : (rSlc rByte).rd H [v] l) : Run Try.prog 61 [.int .i64 c, .agg #[.int .i64 a, .int .i64 b, v]] H fun r H' => Keep H H' ∧ r = .int .i64 (cntR c b l) := by
  have hs := bts_of h
  refine Run.intro c61 rfl ?_
  simp (maxSteps := 4000000) (disch := omega) only [Zq, evO, vbox, wr, Zeq, if_true, if_false, Nat.reduceEqDiff, Nat.reduceAdd, Nat.reduceLeDiff, Nat.reduceSub, and_self, and_true, true_and, reduceIte, reduceCtorEq, eq_self, implies_true, forall_const, false_implies, imp_self, decide_true, decide_false, x61]
  generalize hG0 : H.push [.int .i64 a, .int .i64 b, v] = H0
  have k0 : Keep H H0 := by rw [← hG0]; exact Keep.push _ _
  have g0 : H0.get H.nxt = some (.own [.int .i64 a, .int .i64 b, v]) := by rw [← hG0, push_get', if_pos rfl]
  have n0 : H0.nxt = H.nxt + 1 := by rw [← hG0, Zbg]
  have hs0 : Bts H0 v l := hs.keep k0
  have key : ∀ n : Int, cntN l = n → Keep H H0 ∧ ∀ m, m = cntS c b n → m = cntR c b l := fun n hn => ⟨k0, fun m hm => by rw [hm, cntR, hn]⟩
  by_cases hz : 0 < l.length
  · have hn : cntN l = IntKind.i64.wrap (l.getD 0 0) := by rw [cntN, if_pos hz]
    obtain ⟨kk, key⟩ := key _ hn
    have i0 := IntsK.idx (H1 := H0) (k' := .i64) hs0 hz
    have l0 := IntsK.ld hs0 hz
    simp only [Int.natCast_zero] at i0
    by_cases h3 : b = 3
    · simp (maxSteps := 4000000) (disch := omega) only [Zq, evO, vbox, wr, Zeq, if_true, if_false, Nat.reduceEqDiff, Nat.reduceAdd, Nat.reduceLeDiff, Nat.reduceSub, and_self, and_true, true_and, reduceIte, reduceCtorEq, eq_self, implies_true, forall_const, false_implies, imp_self, decide_true, decide_false, fix_nil, fix_cons, g0, hs0.len_, i0, l0]
      exact ⟨k0, by rw [← key 0 (by simp [cntS, h3])]⟩
    · by_cases h1 : b = 1
      · by_cases hc : 0 ≤ c
        · simp (maxSteps := 4000000) (disch := omega) only [Zq, evO, vbox, wr, Zeq, if_true, if_false, Nat.reduceEqDiff, Nat.reduceAdd, Nat.reduceLeDiff, Nat.reduceSub, and_self, and_true, true_and, reduceIte, reduceCtorEq, eq_self, implies_true, forall_const, false_implies, imp_self, decide_true, decide_false, fix_nil, fix_cons, g0, hs0.len_, i0, l0]
          exact ⟨k0, by rw [← key _ rfl, cntS, if_neg h3, if_pos ⟨h1, hc⟩]⟩
        · simp (maxSteps := 4000000) (disch := omega) only [Zq, evO, vbox, wr, Zeq, if_true, if_false, Nat.reduceEqDiff, Nat.reduceAdd, Nat.reduceLeDiff, Nat.reduceSub, and_self, and_true, true_and, reduceIte, reduceCtorEq, eq_self, implies_true, forall_const, false_implies, imp_self, decide_true, decide_false, fix_nil, fix_cons, g0, hs0.len_, i0, l0]
          exact ⟨k0, by rw [← key _ rfl, cntS, if_neg h3, if_neg (fun h => hc h.2), if_neg (fun h => hc h.2)]⟩
      · by_cases h2 : b = 2
        · by_cases hc : 0 ≤ c
          · simp (maxSteps := 4000000) (disch := omega) only [Zq, evO, vbox, wr, Zeq, if_true, if_false, Nat.reduceEqDiff, Nat.reduceAdd, Nat.reduceLeDiff, Nat.reduceSub, and_self, and_true, true_and, reduceIte, reduceCtorEq, eq_self, implies_true, forall_const, false_implies, imp_self, decide_true, decide_false, fix_nil, fix_cons, g0, hs0.len_, i0, l0, vmm_max]
            exact ⟨k0, by rw [← key _ rfl, cntS_2 h2 hc]⟩
          · simp (maxSteps := 4000000) (disch := omega) only [Zq, evO, vbox, wr, Zeq, if_true, if_false, Nat.reduceEqDiff, Nat.reduceAdd, Nat.reduceLeDiff, Nat.reduceSub, and_self, and_true, true_and, reduceIte, reduceCtorEq, eq_self, implies_true, forall_const, false_implies, imp_self, decide_true, decide_false, fix_nil, fix_cons, g0, hs0.len_, i0, l0]
            exact ⟨k0, by rw [← key _ rfl, cntS, if_neg h3, if_neg (fun h => hc h.2), if_neg (fun h => hc h.2)]⟩
        · simp (maxSteps := 4000000) (disch := omega) only [Zq, evO, vbox, wr, Zeq, if_true, if_false, Nat.reduceEqDiff, Nat.reduceAdd, Nat.reduceLeDiff, Nat.reduceSub, and_self, and_true, true_and, reduceIte, reduceCtorEq, eq_self, implies_true, forall_const, false_implies, imp_self, decide_true, decide_false, fix_nil, fix_cons, g0, hs0.len_, i0, l0]
          exact ⟨k0, by rw [← key _ rfl, cntS, if_neg h3, if_neg (fun h => h1 h.1), if_neg (fun h => h2 h.1)]⟩
  · have hn : cntN l = 0 := by rw [cntN, if_neg hz]
    obtain ⟨kk, key⟩ := key _ hn
    by_cases h3 : b = 3
    · simp (maxSteps := 4000000) (disch := omega) only [Zq, evO, vbox, wr, Zeq, if_true, if_false, Nat.reduceEqDiff, Nat.reduceAdd, Nat.reduceLeDiff, Nat.reduceSub, and_self, and_true, true_and, reduceIte, reduceCtorEq, eq_self, implies_true, forall_const, false_implies, imp_self, decide_true, decide_false, fix_nil, fix_cons, g0, hs0.len_]
      exact ⟨k0, by rw [← key 0 (by simp [cntS, h3])]⟩
    · by_cases h1 : b = 1
      · by_cases hc : 0 ≤ c
        · simp (maxSteps := 4000000) (disch := omega) only [Zq, evO, vbox, wr, Zeq, if_true, if_false, Nat.reduceEqDiff, Nat.reduceAdd, Nat.reduceLeDiff, Nat.reduceSub, and_self, and_true, true_and, reduceIte, reduceCtorEq, eq_self, implies_true, forall_const, false_implies, imp_self, decide_true, decide_false, fix_nil, fix_cons, g0, hs0.len_]
          exact ⟨k0, by rw [← key _ rfl, cntS, if_neg h3, if_pos ⟨h1, hc⟩]⟩
        · simp (maxSteps := 4000000) (disch := omega) only [Zq, evO, vbox, wr, Zeq, if_true, if_false, Nat.reduceEqDiff, Nat.reduceAdd, Nat.reduceLeDiff, Nat.reduceSub, and_self, and_true, true_and, reduceIte, reduceCtorEq, eq_self, implies_true, forall_const, false_implies, imp_self, decide_true, decide_false, fix_nil, fix_cons, g0, hs0.len_]
          exact ⟨k0, by rw [← key _ rfl, cntS, if_neg h3, if_neg (fun h => hc h.2), if_neg (fun h => hc h.2)]⟩
      · by_cases h2 : b = 2
        · by_cases hc : 0 ≤ c
          · simp (maxSteps := 4000000) (disch := omega) only [Zq, evO, vbox, wr, Zeq, if_true, if_false, Nat.reduceEqDiff, Nat.reduceAdd, Nat.reduceLeDiff, Nat.reduceSub, and_self, and_true, true_and, reduceIte, reduceCtorEq, eq_self, implies_true, forall_const, false_implies, imp_self, decide_true, decide_false, fix_nil, fix_cons, g0, hs0.len_, vmm_max]
            exact ⟨k0, by rw [← key _ rfl, cntS_2 h2 hc]⟩
          · simp (maxSteps := 4000000) (disch := omega) only [Zq, evO, vbox, wr, Zeq, if_true, if_false, Nat.reduceEqDiff, Nat.reduceAdd, Nat.reduceLeDiff, Nat.reduceSub, and_self, and_true, true_and, reduceIte, reduceCtorEq, eq_self, implies_true, forall_const, false_implies, imp_self, decide_true, decide_false, fix_nil, fix_cons, g0, hs0.len_]
            exact ⟨k0, by rw [← key _ rfl, cntS, if_neg h3, if_neg (fun h => hc h.2), if_neg (fun h => hc h.2)]⟩
        · simp (maxSteps := 4000000) (disch := omega) only [Zq, evO, vbox, wr, Zeq, if_true, if_false, Nat.reduceEqDiff, Nat.reduceAdd, Nat.reduceLeDiff, Nat.reduceSub, and_self, and_true, true_and, reduceIte, reduceCtorEq, eq_self, implies_true, forall_const, false_implies, imp_self, decide_true, decide_false, fix_nil, fix_cons, g0, hs0.len_]
          exact ⟨k0, by rw [← key _ rfl, cntS, if_neg h3, if_neg (fun h => h1 h.1), if_neg (fun h => h2 h.1)]⟩
/-- An element of a slice of telegrams. -/
theorem tel_el {H : Heap} {v : Value} {ts : List Tel} {i : Nat} (h : (rSlc rTelegram).rd H [v] ts) (hi : i < ts.length) : ∃ w, vldN H 3 (adr v i 3 0) = some (.agg #[.int .i64 ts[i].1, .int .i64 ts[i].2.1, w], H) ∧ vld1 H (adr v i 3 0) = some (.int .i64 ts[i].1, H) ∧ vld1 H (adr v i 3 1) = some (.int .i64 ts[i].2.1, H) ∧ vld1 H (adr v i 3 2) = some (w, H) ∧ (rSlc rByte).rd H [w] ts[i].2.2 := by
  obtain ⟨row, h1, _, h2, h3⟩ := slc_el (sz := 3) rfl (by omega) h hi
  obtain ⟨w, rfl, hw⟩ := telegram_rd (x0 := ts[i].1) (x1 := ts[i].2.1) (x2 := ts[i].2.2) h1
  exact ⟨w, h2, h3 0 _ rfl, h3 1 _ rfl, h3 2 _ rfl, hw⟩
def axStep (s : Int × Int × Nat) (t : Tel) : Int × Int × Nat := if accR s.2.1 t.1 = 1 then (s.1, s.2.1, s.2.2 + 1) else (cntR (if accR s.2.1 t.1 = 2 then -1 else s.1) t.2.1 t.2.2, t.1, s.2.2)
def axGo (ts : List Tel) : Int × Int × Nat := ts.foldl axStep (0, 255, 0)
def axR (ts : List Tel) : Int × Int := if ts.length ≤ 200 ∧ ts.all okT = true then ((axGo ts).1, ((axGo ts).2.2 : Int)) else (-1, -1)
theorem axGo_succ {ts : List Tel} {i : Nat} (h : i < ts.length) : axGo (ts.take (i + 1)) = axStep (axGo (ts.take i)) ts[i] := by
  unfold axGo
  rw [take_snoc' ts h, List.foldl_append]
  rfl
theorem axGo_le (ts : List Tel) : ∀ i, i ≤ ts.length → (axGo (ts.take i)).2.2 ≤ i
  | 0, _ => by simp [axGo]
  | i + 1, h => by
    have ih := axGo_le ts i (by omega)
    rw [axGo_succ (by omega), axStep]
    split
    · show _ + 1 ≤ _; omega
    · show (axGo (ts.take i)).2.2 ≤ _; omega
theorem all_succ {α : Type} {f : α → Bool} {ts : List α} {i : Nat} (h : i < ts.length) (ha : (ts.take i).all f = true) (hx : f ts[i] = true) : (ts.take (i + 1)).all f = true := by
  rw [take_snoc' ts h, List.all_append, ha]
  simp [hx]
theorem all_bad {α : Type} {f : α → Bool} {ts : List α} {i : Nat} (h : i < ts.length) (hx : f ts[i] = false) : ts.all f = false := by
  rw [← Bool.not_eq_true, List.all_eq_true]
  intro hh
  have := hh _ (List.getElem_mem h)
  rw [hx] at this
  cases this
theorem axR_bad {ts : List Tel} (h : ts.all okT = false) : axR ts = (-1, -1) := by rw [axR, if_neg (fun hh => by rw [hh.2] at h; cases h)]
theorem r_impl_Axles {H : Heap} {v : Value} {ts : List Tel} (h : (rSlc rTelegram).rd H [v] ts) (hl : ts.length ≤ 4611686018427387904) : Run Try.prog 13 [v] H fun r H' => Keep H H' ∧ r = .tuple #[.int .i64 (axR ts).1, .int .i64 (axR ts).2] := by
  by_cases h2 : ts.length ≤ 200
  rotate_left
  · refine Run.intro c13 rfl ?_
    simp (maxSteps := 4000000) (disch := omega) only [Zq, evO, vbox, wr, Zeq, if_true, if_false, Nat.reduceEqDiff, Nat.reduceAdd, Nat.reduceLeDiff, Nat.reduceSub, and_self, and_true, true_and, reduceIte, reduceCtorEq, eq_self, implies_true, forall_const, false_implies, imp_self, decide_true, decide_false, x13, slc_len h]
    exact ⟨Keep.refl _, by rw [axR, if_neg (fun h => h2 h.1)]⟩
  refine Run.intro c13 rfl ?_
  simp (maxSteps := 4000000) (disch := omega) only [Zq, evO, vbox, wr, Zeq, if_true, if_false, Nat.reduceEqDiff, Nat.reduceAdd, Nat.reduceLeDiff, Nat.reduceSub, and_self, and_true, true_and, reduceIte, reduceCtorEq, eq_self, implies_true, forall_const, false_implies, imp_self, decide_true, decide_false, x13, slc_len h]
  refine G_forF [0, 14, 15] (ts.length) (fun i T H1 => T 16 = .int .i64 (i : Int) ∧ Keep H H1 ∧ (ts.take i).all okT = true) 0 (Nat.zero_le _) ?_ ?_
  · simp (maxSteps := 4000000) (disch := omega) only [Zq, evO, vbox, wr, Zeq, if_true, if_false, Nat.reduceEqDiff, Nat.reduceAdd, Nat.reduceLeDiff, Nat.reduceSub, and_self, and_true, true_and, reduceIte, reduceCtorEq, eq_self, implies_true, forall_const, false_implies, imp_self, decide_true, decide_false]
    exact ⟨Keep.refl _, rfl⟩
  rintro i T H1 hi hT ⟨t16, k1, ha⟩
  simp only [fix_nil, fix_cons, Zq, evO, vbox, wr, Zeq, if_true, if_false, Nat.reduceEqDiff, Nat.reduceAdd, Nat.reduceLeDiff, Nat.reduceSub, and_self, and_true, true_and, reduceIte, reduceCtorEq, eq_self, implies_true, forall_const, false_implies, imp_self, decide_true, decide_false] at hT
  obtain ⟨t0, t14, t15⟩ := hT
  have h1 := (rSlc rTelegram).rdk h k1
  by_cases hin : i < ts.length
  · obtain ⟨w, e3, e0, e1, e2, hw⟩ := tel_el h1 hin
    simp (maxSteps := 4000000) (disch := omega) only [Zq, evO, vbox, wr, Zeq, if_true, if_false, Nat.reduceEqDiff, Nat.reduceAdd, Nat.reduceLeDiff, Nat.reduceSub, and_self, and_true, true_and, reduceIte, reduceCtorEq, eq_self, implies_true, forall_const, false_implies, imp_self, decide_true, decide_false, fix_nil, fix_cons, t0, t14, t15, t16, slc_idx (sz := 3) rfl h1 hin, e3]
    generalize hG2 : (H1.push [.int .i64 0, .int .i64 0, .slice none 0 0]).set H1.nxt [.int .i64 ts[i].1, .int .i64 ts[i].2.1, w] = H2
    have k2 : Keep H1 H2 := by rw [← hG2]; repeat' (first | exact Keep.refl _ | assumption | refine Keep.push' ?_ | refine Keep.set' ?_ ?_ | refine Keep.moved' ?_ ?_ | omega)
    have g2 : H2.get H1.nxt = some (.own [.int .i64 ts[i].1, .int .i64 ts[i].2.1, w]) := by rw [← hG2, Zbi, if_pos rfl]
    have n2 : H2.nxt = H1.nxt + 1 := by rw [← hG2, Zbh, Zbg]
    refine GO_call ((r_impl_TelegramOk ((rSlc rByte).rdk hw k2)).mono ?_)
    rintro _ H3 ⟨k3, rfl⟩
    have n3 := k3.nxt
    by_cases hok : okTel ts[i].1 ts[i].2.1 ts[i].2.2.length = true
    · simp (maxSteps := 4000000) (disch := omega) only [Zq, evO, vbox, wr, Zeq, if_true, if_false, Nat.reduceEqDiff, Nat.reduceAdd, Nat.reduceLeDiff, Nat.reduceSub, and_self, and_true, true_and, reduceIte, reduceCtorEq, eq_self, implies_true, forall_const, false_implies, imp_self, decide_true, decide_false, fix_nil, fix_cons, t0, t14, t15, t16, g2, hok]
      exact ⟨hin, k1.trans (k2.trans k3), all_succ hin ha hok⟩
    · have hok' : okTel ts[i].1 ts[i].2.1 ts[i].2.2.length = false := by simpa using hok
      simp (maxSteps := 4000000) (disch := omega) only [Zq, evO, vbox, wr, Zeq, if_true, if_false, Nat.reduceEqDiff, Nat.reduceAdd, Nat.reduceLeDiff, Nat.reduceSub, and_self, and_true, true_and, reduceIte, reduceCtorEq, eq_self, implies_true, forall_const, false_implies, imp_self, decide_true, decide_false, fix_nil, fix_cons, t0, t14, t15, t16, g2, hok']
      exact ⟨k1.trans (k2.trans k3), by rw [axR_bad (all_bad hin hok')]⟩
  obtain rfl : i = ts.length := by omega
  rw [List.take_length] at ha
  simp (maxSteps := 4000000) (disch := omega) only [Zq, evO, vbox, wr, Zeq, if_true, if_false, Nat.reduceEqDiff, Nat.reduceAdd, Nat.reduceLeDiff, Nat.reduceSub, and_self, and_true, true_and, reduceIte, reduceCtorEq, eq_self, implies_true, forall_const, false_implies, imp_self, decide_true, decide_false, fix_nil, fix_cons, t0, t14, t15, t16, slc_len h]
  refine G_forF [24, 25] (ts.length) (fun i T H1 => T 26 = .int .i64 (i : Int) ∧ T 6 = .int .i64 (axGo (ts.take i)).1 ∧ T 7 = .int .i64 (axGo (ts.take i)).2.1 ∧ T 8 = .int .i64 ((axGo (ts.take i)).2.2 : Int) ∧ Keep H H1) 0 (Nat.zero_le _) ?_ ?_
  · simp (maxSteps := 4000000) (disch := omega) only [Zq, evO, vbox, wr, Zeq, if_true, if_false, Nat.reduceEqDiff, Nat.reduceAdd, Nat.reduceLeDiff, Nat.reduceSub, and_self, and_true, true_and, reduceIte, reduceCtorEq, eq_self, implies_true, forall_const, false_implies, imp_self, decide_true, decide_false, fix_nil, fix_cons, t0, t14, t15, t16]
    exact ⟨rfl, rfl, rfl, k1⟩
  rintro i T H1 hi hT ⟨t26, t6, t7, t8, k1⟩
  simp only [fix_nil, fix_cons, Zq, evO, vbox, wr, Zeq, if_true, if_false, Nat.reduceEqDiff, Nat.reduceAdd, Nat.reduceLeDiff, Nat.reduceSub, and_self, and_true, true_and, reduceIte, reduceCtorEq, eq_self, implies_true, forall_const, false_implies, imp_self, decide_true, decide_false, t0, t14, t15, t16] at hT
  obtain ⟨t24, t25⟩ := hT
  have h1 := (rSlc rTelegram).rdk h k1
  have hle := axGo_le ts i hi
  by_cases hin : i < ts.length
  · obtain ⟨w, e3, e0, e1, e2, hw⟩ := tel_el h1 hin
    have hs := axGo_succ hin
    rw [axStep] at hs
    simp (maxSteps := 4000000) (disch := omega) only [Zq, evO, vbox, wr, Zeq, if_true, if_false, Nat.reduceEqDiff, Nat.reduceAdd, Nat.reduceLeDiff, Nat.reduceSub, and_self, and_true, true_and, reduceIte, reduceCtorEq, eq_self, implies_true, forall_const, false_implies, imp_self, decide_true, decide_false, fix_nil, fix_cons, t0, t14, t15, t16, t24, t25, t26, t6, t7, t8, slc_idx (sz := 3) rfl h1 hin, e3]
    generalize hG2 : (H1.push [.int .i64 0, .int .i64 0, .slice none 0 0]).set H1.nxt [.int .i64 ts[i].1, .int .i64 ts[i].2.1, w] = H2
    have k2 : Keep H1 H2 := by rw [← hG2]; repeat' (first | exact Keep.refl _ | assumption | refine Keep.push' ?_ | refine Keep.set' ?_ ?_ | refine Keep.moved' ?_ ?_ | omega)
    have g2 : H2.get H1.nxt = some (.own [.int .i64 ts[i].1, .int .i64 ts[i].2.1, w]) := by rw [← hG2, Zbi, if_pos rfl]
    have n2 : H2.nxt = H1.nxt + 1 := by rw [← hG2, Zbh, Zbg]
    refine GO_call ((r_impl_Accept (axGo (ts.take i)).2.1 ts[i].1 _).mono ?_)
    rintro _ H3 ⟨k3, rfl⟩
    have n3 := k3.nxt
    have g3 := (k3.get (H1.nxt) (by omega)).trans g2
    by_cases a1 : accR (axGo (ts.take i)).2.1 ts[i].1 = 1
    · rw [if_pos a1] at hs
      simp (maxSteps := 4000000) (disch := omega) only [Zq, evO, vbox, wr, Zeq, if_true, if_false, Nat.reduceEqDiff, Nat.reduceAdd, Nat.reduceLeDiff, Nat.reduceSub, and_self, and_true, true_and, reduceIte, reduceCtorEq, eq_self, implies_true, forall_const, false_implies, imp_self, decide_true, decide_false, fix_nil, fix_cons, t0, t14, t15, t16, t24, t25, t26, t6, t7, t8, g2, g3, a1, Zfn]
      exact ⟨hin, by rw [hs], by rw [hs], by rw [hs], k1.trans (k2.trans k3)⟩
    · rw [if_neg a1] at hs
      by_cases a2 : accR (axGo (ts.take i)).2.1 ts[i].1 = 2
      · rw [if_pos a2] at hs
        simp (maxSteps := 4000000) (disch := omega) only [Zq, evO, vbox, wr, Zeq, if_true, if_false, Nat.reduceEqDiff, Nat.reduceAdd, Nat.reduceLeDiff, Nat.reduceSub, and_self, and_true, true_and, reduceIte, reduceCtorEq, eq_self, implies_true, forall_const, false_implies, imp_self, decide_true, decide_false, fix_nil, fix_cons, t0, t14, t15, t16, t24, t25, t26, t6, t7, t8, g2, g3, a2]
        refine GO_call ((r_impl_counted (c := -1) ((rSlc rByte).rdk hw (k2.trans k3))).mono ?_)
        rintro _ H4 ⟨k4, rfl⟩
        have n4 := k4.nxt
        have g4 := (k4.get (H1.nxt) (by omega)).trans g3
        simp (maxSteps := 4000000) (disch := omega) only [Zq, evO, vbox, wr, Zeq, if_true, if_false, Nat.reduceEqDiff, Nat.reduceAdd, Nat.reduceLeDiff, Nat.reduceSub, and_self, and_true, true_and, reduceIte, reduceCtorEq, eq_self, implies_true, forall_const, false_implies, imp_self, decide_true, decide_false, fix_nil, fix_cons, t0, t14, t15, t16, t24, t25, t26, t6, t7, t8, g2, g3, g4]
        exact ⟨hin, by rw [hs], by rw [hs], by rw [hs], k1.trans (k2.trans (k3.trans k4))⟩
      · rw [if_neg a2] at hs
        simp (maxSteps := 4000000) (disch := omega) only [Zq, evO, vbox, wr, Zeq, if_true, if_false, Nat.reduceEqDiff, Nat.reduceAdd, Nat.reduceLeDiff, Nat.reduceSub, and_self, and_true, true_and, reduceIte, reduceCtorEq, eq_self, implies_true, forall_const, false_implies, imp_self, decide_true, decide_false, fix_nil, fix_cons, t0, t14, t15, t16, t24, t25, t26, t6, t7, t8, g2, g3, a1, a2]
        refine GO_call ((r_impl_counted (c := (axGo (ts.take i)).1) ((rSlc rByte).rdk hw (k2.trans k3))).mono ?_)
        rintro _ H4 ⟨k4, rfl⟩
        have n4 := k4.nxt
        have g4 := (k4.get (H1.nxt) (by omega)).trans g3
        simp (maxSteps := 4000000) (disch := omega) only [Zq, evO, vbox, wr, Zeq, if_true, if_false, Nat.reduceEqDiff, Nat.reduceAdd, Nat.reduceLeDiff, Nat.reduceSub, and_self, and_true, true_and, reduceIte, reduceCtorEq, eq_self, implies_true, forall_const, false_implies, imp_self, decide_true, decide_false, fix_nil, fix_cons, t0, t14, t15, t16, t24, t25, t26, t6, t7, t8, g2, g3, g4]
        exact ⟨hin, by rw [hs], by rw [hs], by rw [hs], k1.trans (k2.trans (k3.trans k4))⟩
  obtain rfl : i = ts.length := by omega
  rw [List.take_length] at t6 t7 t8
  simp (maxSteps := 4000000) (disch := omega) only [Zq, evO, vbox, wr, Zeq, if_true, if_false, Nat.reduceEqDiff, Nat.reduceAdd, Nat.reduceLeDiff, Nat.reduceSub, and_self, and_true, true_and, reduceIte, reduceCtorEq, eq_self, implies_true, forall_const, false_implies, imp_self, decide_true, decide_false, fix_nil, fix_cons, t0, t14, t15, t16, t24, t25, t26, t6, t7, t8]
  exact ⟨k1, by rw [axR, if_pos ⟨h2, ha⟩]⟩
end Go.Proofs.Ytiajbefljkikiaa.AX
