/- What is drawn: a list that grows beside the cursor; picks. No condition beyond each law's own; of the program: the functions' forms. -/
import Derived.Test.YtjjglonmaajjoaaCurr
import Derived.Test.YtjjglonmaajjoaaAXzg
namespace Go.Proofs.Ytjjglonmaajjoaa.AX
open Go
set_option maxRecDepth 10000
set_option maxHeartbeats 4000000
set_option linter.unusedSimpArgs false
set_option linter.unusedVariables false
section
variable {B H H1 H2 : Heap} {v : Value} {code : List Int} {p : Nat}
theorem cur_ch {G : List Nat} (h : Cur B v code H1 p) (n : H1.nxt ≤ H2.nxt) (g : ∀ a, a < H1.nxt → a ∉ G → H2.get a = H1.get a) (hB : ∀ a ∈ G, B.nxt ≤ a) (hp : p ∉ G) : Cur B v code H2 p := by
  obtain ⟨h1, h2, h3, pos, seed, h4, h5⟩ := h
  exact ⟨⟨Nat.le_trans h1.nxt n, fun a ha => (g a (Nat.lt_of_lt_of_le ha h1.nxt) (fun hm => by have := hB a hm; omega)).trans (h1.get a ha)⟩, h2, Nat.lt_of_lt_of_le h3 n, pos, seed, by rw [g p h3 hp]; exact h4, h5⟩
end
/-- A list under construction; old memory is as it was, but for the cursor at p. -/
structure GP {α : Type} (r : Rep α) (B : Heap) (v : Value) (code : List Int) (p : Nat) (H H1 : Heap) (w : Value) (xs : List α) (F : List Nat) : Prop where
  chg : Chg [p] H H1
  cur : Cur B v code H1 p
  pl : p < H.nxt
  o : (rSlc r).own H1 [w] xs F
  nd : F.Nodup
  fr : ∀ a ∈ F, H.nxt ≤ a
section
variable {α : Type} {r : Rep α} {B : Heap} {v : Value} {code : List Int} {p : Nat} {H H1 H2 : Heap} {w : Value} {xs : List α} {F : List Nat} {sz bytes : Nat}
theorem GP.mv (h : GP r B v code p H H1 w xs F) (c : Chg [p] H1 H2) (cu : Cur B v code H2 p) : GP r B v code p H H2 w xs F :=
  ⟨h.chg.trans c, cu, h.pl, (rSlc r).ownChg h.o c (fun a ha hm => by have := h.fr a ha; have := h.pl; simp at hm; omega), h.nd, h.fr⟩
theorem GP.keep (h : GP r B v code p H H1 w xs F) (k : Keep H1 H2) : GP r B v code p H H2 w xs F := h.mv k.chg (h.cur.chg k)
theorem GP.app (h : GP r B v code p H H1 w xs F) (hz : r.sz = sz) (h0 : 0 < sz) {row : List Value} {y : α} {G : List Nat} (hy : r.own H1 row y G) (hG : G.Nodup) (hd : ∀ a ∈ G, H.nxt ≤ a ∧ a ∉ F) (hb : (xs.length + 1) * bytes ≤ 140737488355328) :
    ∃ u H2 F', vapp (H1.push row) sz bytes w (.slice (some ⟨H1.nxt, 0, none⟩) 1 sz) = some (u, H2) ∧ GP r B v code p H H2 u (xs ++ [y]) F' ∧ H1.nxt ≤ H2.nxt ∧ ∀ a, a < H1.nxt → a ∉ F → H2.get a = H1.get a := by
  obtain ⟨u, H2, F', e, o, c, f, nd, _⟩ := own_app (bytes := bytes) hz h0 h.o hy h.nd hG (fun a ha => (hd a ha).2) hb
  have n := c.nxt
  have nH := h.chg.nxt
  have pl := h.pl
  have old : ∀ a, a < H1.nxt → a ∉ F → H2.get a = H1.get a := fun a ha hm => c.get a ha hm
  have pF : p ∉ F := fun hm => by have := h.fr p hm; omega
  refine ⟨u, H2, F', e, ⟨⟨by omega, fun a ha hm => ?_⟩, cur_ch (G := F) h.cur n old (fun a ha => ?_) pF, pl, o, nd, fun a ha => ?_⟩, n, old⟩
  · rw [old a (by omega) (fun hh => by have := h.fr a hh; omega), h.chg.get a ha hm]
  · have := h.fr a ha
    have := h.cur.2.1
    omega
  · rcases f a ha with h1 | h1 | h1
    · exact h.fr a h1
    · exact (hd a h1).1
    · omega
theorem GP.new (c : Cur B v code H p) (hz : r.sz = sz) : GP r B v code p H (H.push []) (.slice (some ⟨H.nxt, 0, none⟩) 0 sz) [] [H.nxt] :=
  ⟨(Keep.push _ _).chg, c.chg (Keep.push _ _), c.2.2.1, own_new' hz, by simp, by simp⟩
theorem GP.nil (c : Cur B v code H p) : GP r B v code p H H (.slice none 0 0) [] [] :=
  ⟨Chg.refl _ _, c, c.2.2.1, .inl ⟨rfl, rfl, rfl⟩, by simp, by simp⟩
end
section
variable {B : Heap} {v : Value} {code : List Int} {p : Nat} {H : Heap}
theorem r_spec_l01PickInt {w : Value} {xs : List Int} (hb : Bts' B v code) (hl : code.length ≤ 1048576) (hc : ∀ x ∈ code, 0 ≤ x ∧ x ≤ 255) (c : Cur B v code H p) (hw : Ints H w xs) (hp : blk w ≠ p) (hn : 1 ≤ xs.length) (hn' : xs.length ≤ 1000000) : Run Try.prog 85 [ptr p 0, w] H fun r H' => Chg [p] H H' ∧ Cur B v code H' p ∧ ∃ z : Nat, z < xs.length ∧ r = .int .i64 (xs.getD z 0) := by
  have lw : ∀ H : Heap, vlen H w = some (.int .i64 xs.length, H) := fun _ => Sl.len_ hw
  refine Run.intro c85 rfl ?_
  simp (maxSteps := 4000000) (disch := omega) only [Zq, evO, vbox, wr, Zeq, if_true, if_false, Nat.reduceEqDiff, Nat.reduceAdd, Nat.reduceLeDiff, Nat.reduceSub, and_self, and_true, true_and, reduceIte, reduceCtorEq, eq_self, implies_true, forall_const, false_implies, imp_self, decide_true, decide_false, x85, lw]
  refine GO_call ((r_spec_l01Below hb hl hc c hn hn').mono ?_)
  rintro _ H1 ⟨c1, u1, z, rfl, hz⟩
  have bl := Sl.blk_lt hw hz
  have hw1 : Ints H1 w xs := Sl.agree hw c1.nxt (c1.get _ bl (by simpa using hp))
  simp (maxSteps := 4000000) (disch := omega) only [Zq, evO, vbox, wr, Zeq, if_true, if_false, Nat.reduceEqDiff, Nat.reduceAdd, Nat.reduceLeDiff, Nat.reduceSub, and_self, and_true, true_and, reduceIte, reduceCtorEq, eq_self, implies_true, forall_const, false_implies, imp_self, decide_true, decide_false, fix_nil, fix_cons, hw1.idx hz, hw1.ld hz]
  exact ⟨c1, u1, z, hz, rfl⟩
theorem r_spec_l01Once {n : Nat} (hb : Bts' B v code) (hl : code.length ≤ 1048576) (hc : ∀ x ∈ code, 0 ≤ x ∧ x ≤ 255) (c : Cur B v code H p) (hn : 1 ≤ n) (hn' : n ≤ 1000000) : Run Try.prog 82 [ptr p 0, .int .i64 (n : Int)] H fun r H' => Chg [p] H H' ∧ Cur B v code H' p ∧ ∃ t : Bool, r = .bool t := by
  refine Run.intro c82 rfl ?_
  simp (maxSteps := 4000000) (disch := omega) only [Zq, evO, vbox, wr, Zeq, if_true, if_false, Nat.reduceEqDiff, Nat.reduceAdd, Nat.reduceLeDiff, Nat.reduceSub, and_self, and_true, true_and, reduceIte, reduceCtorEq, eq_self, implies_true, forall_const, false_implies, imp_self, decide_true, decide_false, x82]
  refine GO_call ((r_spec_l01Below hb hl hc c hn hn').mono ?_)
  rintro _ H1 ⟨c1, u1, z, rfl, hz⟩
  simp (maxSteps := 4000000) (disch := omega) only [Zq, evO, vbox, wr, Zeq, if_true, if_false, Nat.reduceEqDiff, Nat.reduceAdd, Nat.reduceLeDiff, Nat.reduceSub, and_self, and_true, true_and, reduceIte, reduceCtorEq, eq_self, implies_true, forall_const, false_implies, imp_self, decide_true, decide_false, fix_nil, fix_cons]
  exact ⟨c1, u1, _, rfl⟩
end
end Go.Proofs.Ytjjglonmaajjoaa.AX
