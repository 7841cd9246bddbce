/- Telegrams: whether they are right, whether they are taken, and the count of axles. No condition beyond each law's own; of the program: the functions' forms. -/
import Derived.Test.YtiajbefljkikiaaDoorRtel
import Derived.Test.YtiajbefljkikiaaDoorBas
namespace Go.Proofs.YtiajbefljkikiaaDoor.AX
open Go
set_option maxRecDepth 10000
set_option maxHeartbeats 4000000
set_option linter.unusedSimpArgs false
set_option linter.unusedVariables false
abbrev Tel := Int × Int × List Int
def okTel (a b : Int) (n : Nat) : Bool := inR 0 255 a && inR 0 15 b && decide (n ≤ 60)
def okT (t : Tel) : Bool := okTel t.1 t.2.1 t.2.2.length
theorem r_spec_TelegramOk {H : Heap} {a b : Int} {v : Value} {l : List Int} (h : (rSlc rByte).rd H [v] l) : Run Tryd.prog 39 [.agg #[.int .i64 a, .int .i64 b, v]] H fun r H' => Keep H H' ∧ r = .bool (okTel a b l.length) := by
  have hs := bts_of h
  refine Run.intro c39 rfl ?_
  simp (maxSteps := 4000000) (disch := omega) only [Zq, evO, vbox, wr, Zeq, if_true, if_false, Nat.reduceEqDiff, Nat.reduceAdd, Nat.reduceLeDiff, Nat.reduceSub, and_self, and_true, true_and, reduceIte, reduceCtorEq, eq_self, implies_true, forall_const, false_implies, imp_self, decide_true, decide_false, x39]
  generalize hG0 : H.push [.int .i64 a, .int .i64 b, v] = H0
  have k0 : Keep H H0 := by rw [← hG0]; exact Keep.push _ _
  have g0 : H0.get H.nxt = some (.own [.int .i64 a, .int .i64 b, v]) := by rw [← hG0, push_get', if_pos rfl]
  have n0 : H0.nxt = H.nxt + 1 := by rw [← hG0, Zbg]
  refine GO_call ((r_spec_l01In a 0 255 _).mono ?_)
  rintro _ H1 ⟨k1, rfl⟩
  have n1 := k1.nxt
  have g1 := (k1.get (H.nxt) (by omega)).trans g0
  by_cases ha : inR 0 255 a = true
  · simp (maxSteps := 4000000) (disch := omega) only [Zq, evO, vbox, wr, Zeq, if_true, if_false, Nat.reduceEqDiff, Nat.reduceAdd, Nat.reduceLeDiff, Nat.reduceSub, and_self, and_true, true_and, reduceIte, reduceCtorEq, eq_self, implies_true, forall_const, false_implies, imp_self, decide_true, decide_false, fix_nil, fix_cons, g0, g1, ha]
    refine GO_call ((r_spec_l01In b 0 15 _).mono ?_)
    rintro _ H2 ⟨k2, rfl⟩
    have n2 := k2.nxt
    have g2 := (k2.get (H.nxt) (by omega)).trans g1
    by_cases hb : inR 0 15 b = true
    · by_cases hn : l.length ≤ 60
      · simp (maxSteps := 4000000) (disch := omega) only [Zq, evO, vbox, wr, Zeq, if_true, if_false, Nat.reduceEqDiff, Nat.reduceAdd, Nat.reduceLeDiff, Nat.reduceSub, and_self, and_true, true_and, reduceIte, reduceCtorEq, eq_self, implies_true, forall_const, false_implies, imp_self, decide_true, decide_false, fix_nil, fix_cons, g0, g1, g2, hb, hs.len_]
        exact ⟨k0.trans (k1.trans k2), by simp [okTel, ha, hb, hn]⟩
      · simp (maxSteps := 4000000) (disch := omega) only [Zq, evO, vbox, wr, Zeq, if_true, if_false, Nat.reduceEqDiff, Nat.reduceAdd, Nat.reduceLeDiff, Nat.reduceSub, and_self, and_true, true_and, reduceIte, reduceCtorEq, eq_self, implies_true, forall_const, false_implies, imp_self, decide_true, decide_false, fix_nil, fix_cons, g0, g1, g2, hb, hs.len_]
        exact ⟨k0.trans (k1.trans k2), by simp [okTel, ha, hb, hn]⟩
    · have hb' : inR 0 15 b = false := by simpa using hb
      simp (maxSteps := 4000000) (disch := omega) only [Zq, evO, vbox, wr, Zeq, if_true, if_false, Nat.reduceEqDiff, Nat.reduceAdd, Nat.reduceLeDiff, Nat.reduceSub, and_self, and_true, true_and, reduceIte, reduceCtorEq, eq_self, implies_true, forall_const, false_implies, imp_self, decide_true, decide_false, fix_nil, fix_cons, g0, g1, g2, hb', hs.len_]
      exact ⟨k0.trans (k1.trans k2), by simp [okTel, ha, hb']⟩
  · have ha' : inR 0 255 a = false := by simpa using ha
    simp (maxSteps := 4000000) (disch := omega) only [Zq, evO, vbox, wr, Zeq, if_true, if_false, Nat.reduceEqDiff, Nat.reduceAdd, Nat.reduceLeDiff, Nat.reduceSub, and_self, and_true, true_and, reduceIte, reduceCtorEq, eq_self, implies_true, forall_const, false_implies, imp_self, decide_true, decide_false, fix_nil, fix_cons, g0, g1, ha']
    exact ⟨k0.trans k1, by simp [okTel, ha']⟩
theorem r_impl_TelegramOk {H : Heap} {a b : Int} {v : Value} {l : List Int} (h : (rSlc rByte).rd H [v] l) : Run Tryd.prog 10 [.agg #[.int .i64 a, .int .i64 b, v]] H fun r H' => Keep H H' ∧ r = .bool (okTel a b l.length) := by
  have hs := bts_of h
  refine Run.intro c10 rfl ?_
  simp (maxSteps := 4000000) (disch := omega) only [Zq, evO, vbox, wr, Zeq, if_true, if_false, Nat.reduceEqDiff, Nat.reduceAdd, Nat.reduceLeDiff, Nat.reduceSub, and_self, and_true, true_and, reduceIte, reduceCtorEq, eq_self, implies_true, forall_const, false_implies, imp_self, decide_true, decide_false, x10]
  generalize hG0 : H.push [.int .i64 a, .int .i64 b, v] = H0
  have k0 : Keep H H0 := by rw [← hG0]; exact Keep.push _ _
  have g0 : H0.get H.nxt = some (.own [.int .i64 a, .int .i64 b, v]) := by rw [← hG0, push_get', if_pos rfl]
  have n0 : H0.nxt = H.nxt + 1 := by rw [← hG0, Zbg]
  refine GO_call ((r_impl_between a 0 255 _).mono ?_)
  rintro _ H1 ⟨k1, rfl⟩
  have n1 := k1.nxt
  have g1 := (k1.get (H.nxt) (by omega)).trans g0
  by_cases ha : inR 0 255 a = true
  · simp (maxSteps := 4000000) (disch := omega) only [Zq, evO, vbox, wr, Zeq, if_true, if_false, Nat.reduceEqDiff, Nat.reduceAdd, Nat.reduceLeDiff, Nat.reduceSub, and_self, and_true, true_and, reduceIte, reduceCtorEq, eq_self, implies_true, forall_const, false_implies, imp_self, decide_true, decide_false, fix_nil, fix_cons, g0, g1, ha]
    refine GO_call ((r_impl_between b 0 15 _).mono ?_)
    rintro _ H2 ⟨k2, rfl⟩
    have n2 := k2.nxt
    have g2 := (k2.get (H.nxt) (by omega)).trans g1
    by_cases hb : inR 0 15 b = true
    · by_cases hn : l.length ≤ 60
      · simp (maxSteps := 4000000) (disch := omega) only [Zq, evO, vbox, wr, Zeq, if_true, if_false, Nat.reduceEqDiff, Nat.reduceAdd, Nat.reduceLeDiff, Nat.reduceSub, and_self, and_true, true_and, reduceIte, reduceCtorEq, eq_self, implies_true, forall_const, false_implies, imp_self, decide_true, decide_false, fix_nil, fix_cons, g0, g1, g2, hb, hs.len_]
        exact ⟨k0.trans (k1.trans k2), by simp [okTel, ha, hb, hn]⟩
      · simp (maxSteps := 4000000) (disch := omega) only [Zq, evO, vbox, wr, Zeq, if_true, if_false, Nat.reduceEqDiff, Nat.reduceAdd, Nat.reduceLeDiff, Nat.reduceSub, and_self, and_true, true_and, reduceIte, reduceCtorEq, eq_self, implies_true, forall_const, false_implies, imp_self, decide_true, decide_false, fix_nil, fix_cons, g0, g1, g2, hb, hs.len_]
        exact ⟨k0.trans (k1.trans k2), by simp [okTel, ha, hb, hn]⟩
    · have hb' : inR 0 15 b = false := by simpa using hb
      simp (maxSteps := 4000000) (disch := omega) only [Zq, evO, vbox, wr, Zeq, if_true, if_false, Nat.reduceEqDiff, Nat.reduceAdd, Nat.reduceLeDiff, Nat.reduceSub, and_self, and_true, true_and, reduceIte, reduceCtorEq, eq_self, implies_true, forall_const, false_implies, imp_self, decide_true, decide_false, fix_nil, fix_cons, g0, g1, g2, hb', hs.len_]
      exact ⟨k0.trans (k1.trans k2), by simp [okTel, ha, hb']⟩
  · have ha' : inR 0 255 a = false := by simpa using ha
    simp (maxSteps := 4000000) (disch := omega) only [Zq, evO, vbox, wr, Zeq, if_true, if_false, Nat.reduceEqDiff, Nat.reduceAdd, Nat.reduceLeDiff, Nat.reduceSub, and_self, and_true, true_and, reduceIte, reduceCtorEq, eq_self, implies_true, forall_const, false_implies, imp_self, decide_true, decide_false, fix_nil, fix_cons, g0, g1, ha']
    exact ⟨k0.trans k1, by simp [okTel, ha']⟩
def accR (last seq : Int) : Int := if (inR 0 255 last && inR 0 255 seq) = true then (if seq = (last + 1).tmod 256 then 0 else if seq = last then 1 else 2) else 2
theorem accR_bad {last seq : Int} (h : inR 0 255 last = false ∨ inR 0 255 seq = false) : accR last seq = 2 := by
  rcases h with h | h <;> simp [accR, h]
theorem accR_ok {last seq : Int} (h : inR 0 255 last = true) (h' : inR 0 255 seq = true) : accR last seq = if seq = (last + 1).tmod 256 then 0 else if seq = last then 1 else 2 := by simp [accR, h, h']
def cntN (l : List Int) : Int := if 0 < l.length then IntKind.i64.wrap (l.getD 0 0) else 0
def cntS (c kind n : Int) : Int := if kind = 3 then 0 else if kind = 1 ∧ 0 ≤ c then IntKind.i64.wrap (c + n) else if kind = 2 ∧ 0 ≤ c then (if IntKind.i64.wrap (c - n) < 0 then -1 else IntKind.i64.wrap (c - n)) else c
def cntR (c kind : Int) (l : List Int) : Int := cntS c kind (cntN l)
theorem cntS_2 {c b n : Int} (h2 : b = 2) (hc : 0 ≤ c) : cntS c b n = if IntKind.i64.wrap (c - n) < -1 then -1 else IntKind.i64.wrap (c - n) := by
  subst h2
  rw [cntS, if_neg (by omega), if_neg (by omega), if_pos ⟨rfl, hc⟩]
  split <;> split <;> omega
theorem vmm_max {H : Heap} {k : IntKind} {a b : Int} : vmm H true (.int k a) (.int k b) = some (.int k (if a < b then b else a), H) := by
  simp [vmm]
theorem tel_el {H : Heap} {v : Value} {ts : List Tel} {i : Nat} (h : (rSlc rTelegram).rd H [v] ts) (hi : i < ts.length) : ∃ w, vldN H 3 (adr v i 3 0) = some (.agg #[.int .i64 ts[i].1, .int .i64 ts[i].2.1, w], H) ∧ vld1 H (adr v i 3 0) = some (.int .i64 ts[i].1, H) ∧ vld1 H (adr v i 3 1) = some (.int .i64 ts[i].2.1, H) ∧ vld1 H (adr v i 3 2) = some (w, H) ∧ (rSlc rByte).rd H [w] ts[i].2.2 := by
  obtain ⟨row, h1, _, h2, h3⟩ := slc_el (sz := 3) rfl (by omega) h hi
  obtain ⟨w, rfl, hw⟩ := telegram_rd (x0 := ts[i].1) (x1 := ts[i].2.1) (x2 := ts[i].2.2) h1
  exact ⟨w, h2, h3 0 _ rfl, h3 1 _ rfl, h3 2 _ rfl, hw⟩
def axStep (s : Int × Int × Nat) (t : Tel) : Int × Int × Nat := if accR s.2.1 t.1 = 1 then (s.1, s.2.1, s.2.2 + 1) else (cntR (if accR s.2.1 t.1 = 2 then -1 else s.1) t.2.1 t.2.2, t.1, s.2.2)
def axGo (ts : List Tel) : Int × Int × Nat := ts.foldl axStep (0, 255, 0)
def axR (ts : List Tel) : Int × Int := if ts.length ≤ 200 ∧ ts.all okT = true then ((axGo ts).1, ((axGo ts).2.2 : Int)) else (-1, -1)
theorem axGo_succ {ts : List Tel} {i : Nat} (h : i < ts.length) : axGo (ts.take (i + 1)) = axStep (axGo (ts.take i)) ts[i] := by
  unfold axGo
  rw [take_snoc' ts h, List.foldl_append]
  rfl
theorem axGo_le (ts : List Tel) : ∀ i, i ≤ ts.length → (axGo (ts.take i)).2.2 ≤ i
  | 0, _ => by simp [axGo]
  | i + 1, h => by
    have ih := axGo_le ts i (by omega)
    rw [axGo_succ (by omega), axStep]
    split
    · show _ + 1 ≤ _; omega
    · show (axGo (ts.take i)).2.2 ≤ _; omega
theorem all_succ {α : Type} {f : α → Bool} {ts : List α} {i : Nat} (h : i < ts.length) (ha : (ts.take i).all f = true) (hx : f ts[i] = true) : (ts.take (i + 1)).all f = true := by
  rw [take_snoc' ts h, List.all_append, ha]
  simp [hx]
theorem all_bad {α : Type} {f : α → Bool} {ts : List α} {i : Nat} (h : i < ts.length) (hx : f ts[i] = false) : ts.all f = false := by
  rw [← Bool.not_eq_true, List.all_eq_true]
  intro hh
  have := hh _ (List.getElem_mem h)
  rw [hx] at this
  cases this
theorem axR_bad {ts : List Tel} (h : ts.all okT = false) : axR ts = (-1, -1) := by rw [axR, if_neg (fun hh => by rw [hh.2] at h; cases h)]
end Go.Proofs.YtiajbefljkikiaaDoor.AX
