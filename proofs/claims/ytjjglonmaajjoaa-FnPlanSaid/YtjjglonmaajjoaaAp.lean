/- Runs that stand apart. No condition beyond each law's own; of the program: the functions' forms. -/
import Derived.Test.YtjjglonmaajjoaaNtf
import Derived.Test.YtjjglonmaajjoaaRrun
namespace Go.Proofs.Ytjjglonmaajjoaa.AX
open Go
set_option maxRecDepth 10000
set_option maxHeartbeats 4000000
set_option linter.unusedSimpArgs false
set_option linter.unusedVariables false
abbrev Rn := Int × Int × Int × Int
def rn (l : List Rn) (i : Nat) : Rn := l.getD i (0, 0, 0, 0)
/-- The edge that a leg rides on. -/
def lgE (es : List Ed) (l : List Tp) (i k : Nat) : Int := jn es (cl (tp l i).2 k).1 (cl (tp l i).2 (k + 1)).1
def rnE (es : List Ed) (l : List Tp) (r : Rn) : Int := lgE es l r.1.toNat r.2.1.toNat
def rnOk (l : List Tp) (r : Rn) : Bool := inR 0 ((l.length : Int) - 1) r.1 && (inR 0 (((tp l r.1.toNat).2.length : Int) - 2) r.2.1 && decide (r.2.2.1 < r.2.2.2))
def rnNo (es : List Ed) (l : List Tp) (r q : Rn) : Bool := !(decide (rnE es l q = rnE es l r) && (decide (q.2.2.1 < r.2.2.2) && decide (r.2.2.1 < q.2.2.2)))
def apRow (es : List Ed) (l : List Tp) (rs : List Rn) (i : Nat) : Bool := rnOk l (rn rs i) && allTo i (fun k => rnNo es l (rn rs i) (rn rs k))
def apart (n : Int) (es : List Ed) (l : List Tp) (rs : List Rn) : Bool := ridden n es l && (decide (rs.length ≤ 300) && allTo rs.length (apRow es l rs))
theorem ridden_get {n : Int} {es : List Ed} {l : List Tp} (h : ridden n es l = true) : (∀ i, i < es.length → edOk n (ed es i) = true) ∧ l.length ≤ 24 ∧ (∀ i, i < l.length → tpOk (tp l i) = true) ∧ ∀ i k, i < l.length → k < (tp l i).2.length - 1 → 0 ≤ lgE es l i k := by
  simp only [ridden, Bool.and_eq_true] at h
  obtain ⟨h1, h2, h3⟩ := h
  obtain ⟨t1, t2⟩ := tbOk_get h2
  refine ⟨(netOk_get h1).2.2.2, t1, t2, fun i k hi hk => ?_⟩
  have := allTo_iff.1 (allTo_iff.1 h3 i hi) k hk
  exact of_decide_eq_true this
theorem in_nat {b x : Int} (h : inR 0 b x = true) : ∃ p : Nat, x = p ∧ (p : Int) ≤ b := by
  have := inR_iff.1 h
  exact ⟨x.toNat, by omega, by omega⟩
theorem run_elK {B : Heap} {v : Value} {l : List Rn} {i : Nat} (h : (rSlc rRun).rd B [v] l) (hi : i < l.length) : ∀ H, Keep B H → vldN H 4 (adr v i 4 0) = some (.agg #[.int .i64 (rn l i).1, .int .i64 (rn l i).2.1, .int .i64 (rn l i).2.2.1, .int .i64 (rn l i).2.2.2], H) ∧ vld1 H (adr v i 4 2) = some (.int .i64 (rn l i).2.2.1, H) ∧ vld1 H (adr v i 4 3) = some (.int .i64 (rn l i).2.2.2, H) := by
  obtain ⟨row, h1, h2, h3⟩ := slc_elK (sz := 4) rfl (by omega) h hi
  have e : row = [.int .i64 l[i].1, .int .i64 l[i].2.1, .int .i64 l[i].2.2.1, .int .i64 l[i].2.2.2] := h1
  subst e
  intro H k
  rw [rn, getD_get _ _ hi]
  exact ⟨(h3 H k).1, (h3 H k).2 2 _ rfl, (h3 H k).2 3 _ rfl⟩
section
variable {H : Heap} {v w : Value} {n : Int} {es : List Ed} {l : List Tp} {i k : Nat}
theorem r_spec_l21Edge (he : (rSlc rEdge).rd H [v] es) (hl : es.length ≤ 1048576) (hr : (rSlc rTrip).rd H [w] l) (ok : ridden n es l = true) (hi : i < l.length) (hk : k + 1 < (tp l i).2.length) (f t : Int) : Run Try.prog 66 [.agg #[.int .i64 n, v], w, .agg #[.int .i64 i, .int .i64 k, .int .i64 f, .int .i64 t]] H fun r' H' => Keep H H' ∧ r' = .int .i64 (lgE es l i k) := by
  obtain ⟨hes, _, htp, _⟩ := ridden_get ok
  obtain ⟨h2, h12, hcl⟩ := tpOk_get (htp i hi)
  have hb := (clOk_get (hcl (k + 1) hk)).1.1
  obtain ⟨wc, hc, fc⟩ := trip_elK hr hi
  have k0 : Keep H ((H.push [.int .i64 n, v]).push [.int .i64 i, .int .i64 k, .int .i64 f, .int .i64 t]) := by repeat' (first | exact Keep.refl _ | assumption | refine Keep.push' ?_ | refine Keep.set' ?_ ?_ | refine Keep.moved' ?_ ?_ | omega)
  have ixw := fun H0 : Heap => slc_idx (r := rTrip) (H1 := H0) (sz := 2) (i := i) (k := .i64) rfl hr hi
  have fxw := fun (H0 : Heap) (o off : Nat) => slc_fad (r := rTrip) (H1 := H0) (sz := 2) (o := o) (off := off) rfl hr hi
  have ixp := fun H0 : Heap => slc_idx (r := rCall) (H1 := H0) (sz := 3) (i := k) (k := .i64) rfl hc (by omega)
  have ixq := fun H0 : Heap => slc_idx (r := rCall) (H1 := H0) (sz := 3) (i := k + 1) (k := .i64) rfl hc hk
  have fxp := fun (H0 : Heap) (o off : Nat) => slc_fad (r := rCall) (H1 := H0) (sz := 3) (i := k) (o := o) (off := off) rfl hc (by omega)
  have fxq := fun (H0 : Heap) (o off : Nat) => slc_fad (r := rCall) (H1 := H0) (sz := 3) (i := k + 1) (o := o) (off := off) rfl hc hk
  have e1 := call_el (i := k) ((rSlc rCall).rdk hc k0) (by omega)
  have e2 := call_el (i := k + 1) ((rSlc rCall).rdk hc k0) hk
  have hw : IntKind.i64.wrap ((k : Int) + 1) = ((k + 1 : Nat) : Int) := by rw [wrap64 (by omega) (by omega)]; omega
  refine Run.intro c66 rfl ?_
  simp (maxSteps := 4000000) (disch := omega) only [Zq, evO, vbox, wr, Zeq, if_true, if_false, Nat.reduceEqDiff, Nat.reduceAdd, Nat.reduceLeDiff, Nat.reduceSub, and_self, and_true, true_and, reduceIte, reduceCtorEq, eq_self, implies_true, forall_const, false_implies, imp_self, decide_true, decide_false, x66]
  refine G_tame rfl ?_
  simp (maxSteps := 4000000) (disch := omega) only [Zq, evO, vbox, wr, Zeq, if_true, if_false, Nat.reduceEqDiff, Nat.reduceAdd, Nat.reduceLeDiff, Nat.reduceSub, and_self, and_true, true_and, reduceIte, reduceCtorEq, eq_self, implies_true, forall_const, false_implies, imp_self, decide_true, decide_false, fix_nil, fix_cons, ixw, fxw, (fc _ k0).2.2, ixp, ixq, fxp, fxq, hw, e1, e2]
  refine GO_call ((r_spec_l09Edge (n := n) (a := (cl (tp l i).2 k).1) (b := (cl (tp l i).2 (k + 1)).1) ((rSlc rEdge).rdk he k0) hl hes hb).mono ?_)
  rintro _ H1 ⟨k1, rfl⟩
  have n1 := k1.nxt
  simp (maxSteps := 4000000) (disch := omega) only [Zq, evO, vbox, wr, Zeq, if_true, if_false, Nat.reduceEqDiff, Nat.reduceAdd, Nat.reduceLeDiff, Nat.reduceSub, and_self, and_true, true_and, reduceIte, reduceCtorEq, eq_self, implies_true, forall_const, false_implies, imp_self, decide_true, decide_false, fix_nil, fix_cons]
  exact ⟨k0.trans k1, rfl⟩
theorem r_impl_edge {B C D E F G I : Value} (he : (rSlc rEdge).rd H [v] es) (hl : es.length ≤ 1048576) (hr : (rSlc rTrip).rd H [w] l) {p : Nat} (hg : H.get p = some (.own [.int .i64 n, v, w, B, C, D, E, F, G])) (h12 : (tp l i).2.length ≤ 12) (hi : i < l.length) (hk : k + 1 < (tp l i).2.length) : Run Try.prog 62 [ptr p 0, .int .i64 i, .int .i64 k] H fun r' H' => Keep H H' ∧ r' = .int .i64 (lgE es l i k) := by
  obtain ⟨wc, hc, fc⟩ := trip_elK hr hi
  have k0 : Keep H H := Keep.refl _
  have ixw := fun H0 : Heap => slc_idx (r := rTrip) (H1 := H0) (sz := 2) (i := i) (k := .i64) rfl hr hi
  have fxw := fun (H0 : Heap) (o off : Nat) => slc_fad (r := rTrip) (H1 := H0) (sz := 2) (o := o) (off := off) rfl hr hi
  have ixp := fun H0 : Heap => slc_idx (r := rCall) (H1 := H0) (sz := 3) (i := k) (k := .i64) rfl hc (by omega)
  have ixq := fun H0 : Heap => slc_idx (r := rCall) (H1 := H0) (sz := 3) (i := k + 1) (k := .i64) rfl hc hk
  have fxp := fun (H0 : Heap) (o off : Nat) => slc_fad (r := rCall) (H1 := H0) (sz := 3) (i := k) (o := o) (off := off) rfl hc (by omega)
  have fxq := fun (H0 : Heap) (o off : Nat) => slc_fad (r := rCall) (H1 := H0) (sz := 3) (i := k + 1) (o := o) (off := off) rfl hc hk
  have e1 := call_el (i := k) hc (by omega)
  have e2 := call_el (i := k + 1) hc hk
  have hw : IntKind.i64.wrap ((k : Int) + 1) = ((k + 1 : Nat) : Int) := by rw [wrap64 (by omega) (by omega)]; omega
  refine Run.intro c62 rfl ?_
  simp (maxSteps := 4000000) (disch := omega) only [Zq, evO, vbox, wr, Zeq, if_true, if_false, Nat.reduceEqDiff, Nat.reduceAdd, Nat.reduceLeDiff, Nat.reduceSub, and_self, and_true, true_and, reduceIte, reduceCtorEq, eq_self, implies_true, forall_const, false_implies, imp_self, decide_true, decide_false, x62, hg, ixw, fxw, (fc _ k0).2.2]
  refine G_tame rfl ?_
  simp (maxSteps := 4000000) (disch := omega) only [Zq, evO, vbox, wr, Zeq, if_true, if_false, Nat.reduceEqDiff, Nat.reduceAdd, Nat.reduceLeDiff, Nat.reduceSub, and_self, and_true, true_and, reduceIte, reduceCtorEq, eq_self, implies_true, forall_const, false_implies, imp_self, decide_true, decide_false, fix_nil, fix_cons, hg, ixp, ixq, fxp, fxq, hw, e1, e2]
  refine GO_call ((r_impl_joining (n := n) (a := (cl (tp l i).2 k).1) (b := (cl (tp l i).2 (k + 1)).1) he hl).mono ?_)
  rintro _ H1 ⟨k1, d, rfl⟩
  have n1 := k1.nxt
  simp (maxSteps := 4000000) (disch := omega) only [Zq, evO, vbox, wr, Zeq, if_true, if_false, Nat.reduceEqDiff, Nat.reduceAdd, Nat.reduceLeDiff, Nat.reduceSub, and_self, and_true, true_and, reduceIte, reduceCtorEq, eq_self, implies_true, forall_const, false_implies, imp_self, decide_true, decide_false, fix_nil, fix_cons]
  exact ⟨k1, rfl⟩
end
end Go.Proofs.Ytjjglonmaajjoaa.AX
