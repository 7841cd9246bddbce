/- Lockings: ops on them. No condition beyond each law's own; of the program: the functions' forms. -/
import Derived.Test.YthjphddodooahaaPlf
namespace Go.Proofs.Ythjphddodooahaa.AX
open Go
set_option maxRecDepth 10000
set_option maxHeartbeats 4000000
set_option linter.unusedSimpArgs false
set_option linter.unusedVariables false
/-- Grown, and unturned where P does not let. -/
structure KpP (P : Nat → Prop) (H H' : Heap) : Prop where
  nxt : H.nxt ≤ H'.nxt
  get : ∀ a, a < H.nxt → ¬ P a → H'.get a = H.get a
theorem KpP.refl (P : Nat → Prop) (H : Heap) : KpP P H H := ⟨Nat.le_refl _, fun _ _ _ => rfl⟩
theorem KpP.trans {P : Nat → Prop} {H H1 H2 : Heap} (h : KpP P H H1) (k : KpP P H1 H2) : KpP P H H2 := ⟨Nat.le_trans h.nxt k.nxt, fun a ha hp => (k.get a (Nat.lt_of_lt_of_le ha h.nxt) hp).trans (h.get a ha hp)⟩
theorem KpP.of {P : Nat → Prop} {H H' : Heap} (h : Keep H H') : KpP P H H' := ⟨h.nxt, fun a ha _ => h.get a ha⟩
theorem KpP.keep {P : Nat → Prop} {B H H' : Heap} (h : KpP P H H') (k : Keep B H) (hP : ∀ a, P a → B.nxt ≤ a) : Keep B H' := ⟨Nat.le_trans k.nxt h.nxt, fun a ha => (h.get a (Nat.lt_of_lt_of_le ha k.nxt) (fun hp => by have := hP a hp; omega)).trans (k.get a ha)⟩
theorem leaf_st {α : Type} {f : α → Value} {m : Nat → α} {hf : ∀ a, oneCell (f a) = true} {H : Heap} {v : Value} {xs : List α} {F : List Nat} {i : Nat} (h : (rSlc (leafRep f m hf)).own H [v] xs F) (hi : i < xs.length) (y : α) :
    ∃ H', vst H 1 (f y) (adr v i 1 0) = some (undef, H') ∧ (rSlc (leafRep f m hf)).own H' [v] (xs.set i y) F ∧ H'.nxt = H.nxt ∧ ∀ a, a ∉ F → H'.get a = H.get a := by
  rcases leaf_own h with ⟨_, rfl, _⟩ | ⟨p, pre, post, hv, hp, hg, rfl⟩
  · simp at hi
  · obtain rfl := List.singleton_inj.1 hv
    refine ⟨H.set p (mid pre ((xs.set i y).map f) post), ?_, ?_, Zbh .., fun a ha => by rw [Zbi, if_neg (by simpa using ha)]⟩
    · simp only [adr, Zcq, hg, Nat.mul_one, Nat.add_zero]
      rw [stO_mid (hf y) rfl (by rw [List.length_map]; exact hi), List.map_set]
    · have := leaf_own' (f := f) (m := m) (hf := hf) (H := H.set p (mid pre ((xs.set i y).map f) post)) (xs := xs.set i y) (pre := pre) (post := post) (p := p) (by rw [Zbh]; exact hp) (by rw [Zbi, if_pos rfl])
      rwa [List.length_set] at this
/-- A locking of one's own in a box at q. -/
structure Lk (P : Nat → Prop) (H : Heap) (q : Nat) (v w u : Value) (F0 F1 F2 : List Nat) (pos : List Int) (set tk : List Bool) : Prop where
  hq : P q
  lt : q < H.nxt
  g : H.get q = some (.own [v, w, u])
  o0 : (rSlc rInt).own H [v] pos F0
  o1 : (rSlc rBool).own H [w] set F1
  o2 : (rSlc rBool).own H [u] tk F2
  nd : (F0 ++ (F1 ++ F2)).Nodup
  pf : ∀ a ∈ F0 ++ (F1 ++ F2), P a ∧ a ≠ q
section
variable {P : Nat → Prop} {H H' : Heap} {q : Nat} {v w u : Value} {F0 F1 F2 : List Nat} {pos : List Int} {set tk : List Bool}
theorem Lk.keep (h : Lk P H q v w u F0 F1 F2 pos set tk) (k : Keep H H') : Lk P H' q v w u F0 F1 F2 pos set tk :=
  ⟨h.hq, Nat.lt_of_lt_of_le h.lt k.nxt, (k.get q h.lt).trans h.g, (rSlc rInt).ownKeep h.o0 k, (rSlc rBool).ownKeep h.o1 k, (rSlc rBool).ownKeep h.o2 k, h.nd, h.pf⟩
theorem Lk.m0 (h : Lk P H q v w u F0 F1 F2 pos set tk) {a : Nat} (ha : a ∈ F0) : (P a ∧ a ≠ q) ∧ a ∉ F1 ∧ a ∉ F2 := ⟨h.pf a (List.mem_append_left _ ha), fun hh => (List.nodup_append.1 h.nd).2.2 a ha a (List.mem_append_left _ hh) rfl, fun hh => (List.nodup_append.1 h.nd).2.2 a ha a (List.mem_append_right _ hh) rfl⟩
theorem Lk.m1 (h : Lk P H q v w u F0 F1 F2 pos set tk) {a : Nat} (ha : a ∈ F1) : (P a ∧ a ≠ q) ∧ a ∉ F0 ∧ a ∉ F2 := ⟨h.pf a (List.mem_append_right _ (List.mem_append_left _ ha)), fun hh => (List.nodup_append.1 h.nd).2.2 a hh a (List.mem_append_left _ ha) rfl, fun hh => (List.nodup_append.1 (List.nodup_append.1 h.nd).2.1).2.2 a ha a hh rfl⟩
theorem Lk.m2 (h : Lk P H q v w u F0 F1 F2 pos set tk) {a : Nat} (ha : a ∈ F2) : (P a ∧ a ≠ q) ∧ a ∉ F0 ∧ a ∉ F1 := ⟨h.pf a (List.mem_append_right _ (List.mem_append_right _ ha)), fun hh => (List.nodup_append.1 h.nd).2.2 a hh a (List.mem_append_right _ ha) rfl, fun hh => (List.nodup_append.1 (List.nodup_append.1 h.nd).2.1).2.2 a hh a ha rfl⟩
theorem Lk.st0 (h : Lk P H q v w u F0 F1 F2 pos set tk) {i : Nat} (hi : i < pos.length) (y : Int) : ∃ H', vst H 1 (.int .i64 y) (adr v i 1 0) = some (undef, H') ∧ Lk P H' q v w u F0 F1 F2 (pos.set i y) set tk ∧ KpP P H H' ∧ H'.nxt = H.nxt ∧ H'.get q = H.get q := by
  obtain ⟨H', e, o, n, g⟩ := leaf_st h.o0 hi y
  have gq := g q (fun hh => (h.m0 hh).1.2 rfl)
  exact ⟨H', e, ⟨h.hq, by rw [n]; exact h.lt, gq.trans h.g, o, (rSlc rBool).ownk h.o1 (by omega) (fun a ha => g a (h.m1 ha).2.1), (rSlc rBool).ownk h.o2 (by omega) (fun a ha => g a (h.m2 ha).2.1), h.nd, h.pf⟩, ⟨by omega, fun a _ hp => g a (fun hh => hp (h.m0 hh).1.1)⟩, n, gq⟩
theorem Lk.st1 (h : Lk P H q v w u F0 F1 F2 pos set tk) {i : Nat} (hi : i < set.length) (y : Bool) : ∃ H', vst H 1 (.bool y) (adr w i 1 0) = some (undef, H') ∧ Lk P H' q v w u F0 F1 F2 pos (set.set i y) tk ∧ KpP P H H' ∧ H'.nxt = H.nxt ∧ H'.get q = H.get q := by
  obtain ⟨H', e, o, n, g⟩ := leaf_st h.o1 hi y
  have gq := g q (fun hh => (h.m1 hh).1.2 rfl)
  exact ⟨H', e, ⟨h.hq, by rw [n]; exact h.lt, gq.trans h.g, (rSlc rInt).ownk h.o0 (by omega) (fun a ha => g a (h.m0 ha).2.1), o, (rSlc rBool).ownk h.o2 (by omega) (fun a ha => g a (h.m2 ha).2.2), h.nd, h.pf⟩, ⟨by omega, fun a _ hp => g a (fun hh => hp (h.m1 hh).1.1)⟩, n, gq⟩
theorem Lk.st2 (h : Lk P H q v w u F0 F1 F2 pos set tk) {i : Nat} (hi : i < tk.length) (y : Bool) : ∃ H', vst H 1 (.bool y) (adr u i 1 0) = some (undef, H') ∧ Lk P H' q v w u F0 F1 F2 pos set (tk.set i y) ∧ KpP P H H' ∧ H'.nxt = H.nxt ∧ H'.get q = H.get q := by
  obtain ⟨H', e, o, n, g⟩ := leaf_st h.o2 hi y
  have gq := g q (fun hh => (h.m2 hh).1.2 rfl)
  exact ⟨H', e, ⟨h.hq, by rw [n]; exact h.lt, gq.trans h.g, (rSlc rInt).ownk h.o0 (by omega) (fun a ha => g a (h.m0 ha).2.2), (rSlc rBool).ownk h.o1 (by omega) (fun a ha => g a (h.m1 ha).2.2), o, h.nd, h.pf⟩, ⟨by omega, fun a _ hp => g a (fun hh => hp (h.m2 hh).1.1)⟩, n, gq⟩
end
/-- What an op of the program on a locking that is right does. -/
def IsOp (f : FuncId) (opf : List Int → Int → List Rt → Lo → Int → Lo × Int) : Prop := ∀ {P : Nat → Prop} {B H : Heap} {q : Nat} {v w u vu vr : Value} {F0 F1 F2 : List Nat} {under : List Int} {b : Int} {routes : List Rt} {pos : List Int} {set tk : List Bool} {k : Int}, Keep B H → (∀ a, P a → B.nxt ≤ a) → (rSlc rInt).rd B [vu] under → (rSlc rRoute).rd B [vr] routes → rPlant.tot (under, b, routes) ≤ 1048576 → Lk P H q v w u F0 F1 F2 pos set tk → lkOk under b routes pos set tk = true →
  Run Try.prog f [ptr q 0, .agg #[vu, .int .i64 b, vr], .int .i64 k] H fun x H' => KpP P H H' ∧ Lk P H' q v w u F0 F1 F2 (opf under b routes (pos, set, tk) k).1.1 (opf under b routes (pos, set, tk) k).1.2.1 (opf under b routes (pos, set, tk) k).1.2.2 ∧ x = .int .i64 (opf under b routes (pos, set, tk) k).2
theorem lkOk_get {under : List Int} {b : Int} {routes : List Rt} {pos : List Int} {set tk : List Bool} (h : lkOk under b routes pos set tk = true) : plOk under b routes = true ∧ pos.length = under.length ∧ set.length = routes.length ∧ (tk.length : Int) = b := by
  simp only [lkOk, Bool.and_eq_true, decide_eq_true_eq] at h
  exact ⟨h.1, h.2.1, h.2.2.1, h.2.2.2.1⟩
def vaR (under : List Int) (b : Int) (routes : List Rt) (L : Lo) (k : Int) : Lo × Int :=
  if inR 0 (b - 1) k = true then (if L.2.2.getD k.toNat false = true then ((L.1, L.2.1, L.2.2.set k.toNat false), 0) else (L, 6)) else (L, 1)
theorem int_nat {k b : Int} (h : inR 0 (b - 1) k = true) : ∃ n : Nat, k = n ∧ (n : Int) < b := by
  have := inR_iff.1 h
  exact ⟨k.toNat, by omega, by omega⟩
theorem r_impl_vacate : IsOp 82 vaR := by
  intro P B H q v w u vu vr F0 F1 F2 under b routes pos set tk k kB hP hu hr tt hL hok
  obtain ⟨hpl, l1, l2, l3⟩ := lkOk_get hok
  obtain ⟨b1, b2, _, _, _, _⟩ := plOk_get hpl
  have hwb : IntKind.i64.wrap (b - 1) = b - 1 := wrap64 (by omega) (by omega)
  refine Run.intro c82 rfl ?_
  simp (maxSteps := 4000000) (disch := omega) only [Zq, evO, vbox, wr, Zeq, if_true, if_false, Nat.reduceEqDiff, Nat.reduceAdd, Nat.reduceLeDiff, Nat.reduceSub, and_self, and_true, true_and, reduceIte, reduceCtorEq, eq_self, implies_true, forall_const, false_implies, imp_self, decide_true, decide_false, x82, hwb]
  generalize hG0 : H.push [vu, .int .i64 b, vr] = H0
  have k0 : Keep H H0 := by rw [← hG0]; exact Keep.push _ _
  have g0 : H0.get H.nxt = some (.own [vu, .int .i64 b, vr]) := by rw [← hG0, push_get', if_pos rfl]
  have n0 : H0.nxt = H.nxt + 1 := by rw [← hG0, Zbg]
  refine GO_call ((r_impl_between k 0 (b - 1) _).mono ?_)
  rintro _ H1 ⟨k1, rfl⟩
  have n1 := k1.nxt
  have g1 := (k1.get (H.nxt) (by omega)).trans g0
  have hL1 := (hL.keep k0).keep k1
  have kk := KpP.of (P := P) (k0.trans k1)
  have g1q := hL1.g
  by_cases c1 : inR 0 (b - 1) k = true
  rotate_left
  · have c1' : inR 0 (b - 1) k = false := by simpa using c1
    simp (maxSteps := 4000000) (disch := omega) only [Zq, evO, vbox, wr, Zeq, if_true, if_false, Nat.reduceEqDiff, Nat.reduceAdd, Nat.reduceLeDiff, Nat.reduceSub, and_self, and_true, true_and, reduceIte, reduceCtorEq, eq_self, implies_true, forall_const, false_implies, imp_self, decide_true, decide_false, fix_nil, fix_cons, g0, g1, g1q, c1']
    rw [vaR, if_neg c1]
    exact ⟨kk, hL1, rfl⟩
  obtain ⟨n, rfl, hn⟩ := int_nat c1
  have hnt : n < tk.length := by omega
  have eb := bool_el ((rSlc rBool).ownrd hL1.o2) hnt
  have ixb := fun H0 : Heap => slc_idx (r := rBool) (H1 := H0) (sz := 1) (i := n) (k := .i64) rfl ((rSlc rBool).ownrd hL1.o2) hnt
  have hv : vaR under b routes (pos, set, tk) n = (if tk.getD n false = true then ((pos, set, tk.set n false), 0) else ((pos, set, tk), 6)) := by rw [vaR, if_pos c1, Int.toNat_natCast]
  rw [hv]
  by_cases c2 : tk.getD n false = true
  · rw [if_pos c2]
    rw [c2] at eb
    obtain ⟨H2, e2, L2, q2, n2, _⟩ := hL1.st2 hnt false
    simp (maxSteps := 4000000) (disch := omega) only [Zq, evO, vbox, wr, Zeq, if_true, if_false, Nat.reduceEqDiff, Nat.reduceAdd, Nat.reduceLeDiff, Nat.reduceSub, and_self, and_true, true_and, reduceIte, reduceCtorEq, eq_self, implies_true, forall_const, false_implies, imp_self, decide_true, decide_false, fix_nil, fix_cons, g0, g1, g1q, c1, ixb, eb, e2]
    exact ⟨kk.trans q2, L2⟩
  · have c2' : tk.getD n false = false := by simpa using c2
    rw [if_neg c2]
    rw [c2'] at eb
    simp (maxSteps := 4000000) (disch := omega) only [Zq, evO, vbox, wr, Zeq, if_true, if_false, Nat.reduceEqDiff, Nat.reduceAdd, Nat.reduceLeDiff, Nat.reduceSub, and_self, and_true, true_and, reduceIte, reduceCtorEq, eq_self, implies_true, forall_const, false_implies, imp_self, decide_true, decide_false, fix_nil, fix_cons, g0, g1, g1q, c1, ixb, eb]
    exact ⟨kk, hL1⟩
/-- The same, by the number of the op. -/
def IsPlay (kind : Int) (opf : List Int → Int → List Rt → Lo → Int → Lo × Int) : Prop := ∀ {P : Nat → Prop} {B H : Heap} {q : Nat} {v w u vu vr : Value} {F0 F1 F2 : List Nat} {under : List Int} {b : Int} {routes : List Rt} {pos : List Int} {set tk : List Bool} {k : Int}, Keep B H → (∀ a, P a → B.nxt ≤ a) → (rSlc rInt).rd B [vu] under → (rSlc rRoute).rd B [vr] routes → rPlant.tot (under, b, routes) ≤ 1048576 → Lk P H q v w u F0 F1 F2 pos set tk → lkOk under b routes pos set tk = true →
  Run Try.prog 52 [ptr q 0, .agg #[vu, .int .i64 b, vr], .agg #[.int .i64 kind, .int .i64 k]] H fun x H' => KpP P H H' ∧ Lk P H' q v w u F0 F1 F2 (opf under b routes (pos, set, tk) k).1.1 (opf under b routes (pos, set, tk) k).1.2.1 (opf under b routes (pos, set, tk) k).1.2.2 ∧ x = .int .i64 (opf under b routes (pos, set, tk) k).2
theorem play_2 : IsPlay 2 vaR := by
  intro P B H q v w u vu vr F0 F1 F2 under b routes pos set tk k kB hP hu hr tt hL hok
  refine Run.intro c52 rfl ?_
  simp (maxSteps := 4000000) (disch := omega) only [Zq, evO, vbox, wr, Zeq, if_true, if_false, Nat.reduceEqDiff, Nat.reduceAdd, Nat.reduceLeDiff, Nat.reduceSub, and_self, and_true, true_and, reduceIte, reduceCtorEq, eq_self, implies_true, forall_const, false_implies, imp_self, decide_true, decide_false, x52]
  generalize hG0 : (H.push [vu, .int .i64 b, vr]).push [.int .i64 2, .int .i64 k] = H0
  have k0 : Keep H H0 := by rw [← hG0]; repeat' (first | exact Keep.refl _ | assumption | refine Keep.push' ?_ | refine Keep.set' ?_ ?_ | refine Keep.moved' ?_ ?_ | omega)
  refine GO_call ((r_impl_vacate (kB.trans k0) hP hu hr tt (hL.keep k0) hok).mono ?_)
  rintro _ H1 ⟨k1, L1, rfl⟩
  simp (maxSteps := 4000000) (disch := omega) only [Zq, evO, vbox, wr, Zeq, if_true, if_false, Nat.reduceEqDiff, Nat.reduceAdd, Nat.reduceLeDiff, Nat.reduceSub, and_self, and_true, true_and, reduceIte, reduceCtorEq, eq_self, implies_true, forall_const, false_implies, imp_self, decide_true, decide_false, fix_nil, fix_cons]
  exact ⟨(KpP.of k0).trans k1, L1⟩
/-- What an op of its name gives. -/
def opR (opf : List Int → Int → List Rt → Lo → Int → Lo × Int) (p : List Int × Int × List Rt) (L : Lo) (k : Int) : Lo × Int := if lkOk p.1 p.2.1 p.2.2 L.1 L.2.1 L.2.2 = true then opf p.1 p.2.1 p.2.2 L k else (L, 1)
theorem own_lk {B H H' : Heap} {v w u : Value} {pos : List Int} {set tk : List Bool} {F : List Nat} (h : rLocking.own H [v, w, u] (pos, set, tk) F) (f : Fresh B H F) (hb : B.nxt ≤ H.nxt) (hk : Keep H H') (hn : H.nxt < H'.nxt) (hg : H'.get H.nxt = some (.own [v, w, u])) : ∃ F0 F1 F2, Lk (fun a => B.nxt ≤ a) H' H.nxt v w u F0 F1 F2 pos set tk := by
  have lt := rLocking.ownlt h
  obtain ⟨v0, w0, u0, F0, F1, F2, e, o0, o1, o2, rfl⟩ := locking_own h
  simp only [List.cons.injEq, and_true] at e
  obtain ⟨rfl, rfl, rfl⟩ := e
  exact ⟨F0, F1, F2, hb, hn, hg, (rSlc rInt).ownKeep o0 hk, (rSlc rBool).ownKeep o1 hk, (rSlc rBool).ownKeep o2 hk, f.1, fun a ha => ⟨(f.2 a ha).1, by have := lt a ha; omega⟩⟩
theorem r_impl_doLock {kind : Int} {opf : List Int → Int → List Rt → Lo → Int → Lo × Int} (hplay : IsPlay kind opf) {H : Heap} {vu vr vp vs vt : Value} {under : List Int} {b : Int} {routes : List Rt} {pos : List Int} {set taken : List Bool} {k : Int} (hu : (rSlc rInt).rd H [vu] under) (hr : (rSlc rRoute).rd H [vr] routes) (hp : (rSlc rInt).rd H [vp] pos) (hs : (rSlc rBool).rd H [vs] set) (ht : (rSlc rBool).rd H [vt] taken) (tt : rPlant.tot (under, b, routes) ≤ 1048576) (tl : rLocking.tot (pos, set, taken) ≤ 1048576) :
    Run Try.prog 48 [.agg #[vu, .int .i64 b, vr], .agg #[vp, vs, vt], .int .i64 kind, .int .i64 k] H fun r H' => Keep H H' ∧ ∃ cs F, r = .tuple #[rLocking.val cs, .int .i64 (opR opf (under, b, routes) (pos, set, taken) k).2] ∧ rLocking.own H' cs (opR opf (under, b, routes) (pos, set, taken) k).1 F ∧ Fresh H H' F := by
  refine Run.intro c48 rfl ?_
  simp (maxSteps := 4000000) (disch := omega) only [Zq, evO, vbox, wr, Zeq, if_true, if_false, Nat.reduceEqDiff, Nat.reduceAdd, Nat.reduceLeDiff, Nat.reduceSub, and_self, and_true, true_and, reduceIte, reduceCtorEq, eq_self, implies_true, forall_const, false_implies, imp_self, decide_true, decide_false, x48]
  generalize hG0 : ((H.push [vu, .int .i64 b, vr]).push [vp, vs, vt]).push [.slice none 0 0, .slice none 0 0, .slice none 0 0] = H0
  have k0 : Keep H H0 := by rw [← hG0]; repeat' (first | exact Keep.refl _ | assumption | refine Keep.push' ?_ | refine Keep.set' ?_ ?_ | refine Keep.moved' ?_ ?_ | omega)
  have g0 : H0.get H.nxt = some (.own [vu, .int .i64 b, vr]) := by rw [← hG0]; simp (maxSteps := 4000000) (disch := omega) only [Zq, evO, vbox, wr, Zeq, if_true, if_false, Nat.reduceEqDiff, Nat.reduceAdd, Nat.reduceLeDiff, Nat.reduceSub, and_self, and_true, true_and, reduceIte, reduceCtorEq, eq_self, implies_true, forall_const, false_implies, imp_self, decide_true, decide_false]
  have g0l : H0.get (H.nxt + 1) = some (.own [vp, vs, vt]) := by rw [← hG0]; simp (maxSteps := 4000000) (disch := omega) only [Zq, evO, vbox, wr, Zeq, if_true, if_false, Nat.reduceEqDiff, Nat.reduceAdd, Nat.reduceLeDiff, Nat.reduceSub, and_self, and_true, true_and, reduceIte, reduceCtorEq, eq_self, implies_true, forall_const, false_implies, imp_self, decide_true, decide_false]
  have g0r : H0.get (H.nxt + 2) = some (.own [.slice none 0 0, .slice none 0 0, .slice none 0 0]) := by rw [← hG0]; simp (maxSteps := 4000000) (disch := omega) only [Zq, evO, vbox, wr, Zeq, if_true, if_false, Nat.reduceEqDiff, Nat.reduceAdd, Nat.reduceLeDiff, Nat.reduceSub, and_self, and_true, true_and, reduceIte, reduceCtorEq, eq_self, implies_true, forall_const, false_implies, imp_self, decide_true, decide_false]
  have n0 : H0.nxt = H.nxt + 3 := by rw [← hG0]; simp only [Zbg]
  clear hG0
  refine GO_call ((r_impl_cloneLocking ((rSlc rInt).rdk hp k0) ((rSlc rBool).rdk hs k0) ((rSlc rBool).rdk ht k0) tl).mono ?_)
  rintro _ H1 ⟨k1, cs, F, rfl, o1, fr⟩
  obtain ⟨v1, w1, u1, rfl, _⟩ := locking_rd (rLocking.ownrd o1)
  have n1 := k1.nxt
  have g1 := (k1.get H.nxt (by omega)).trans g0
  have g1l := (k1.get (H.nxt + 1) (by omega)).trans g0l
  have g1r := (k1.get (H.nxt + 2) (by omega)).trans g0r
  simp only [locking_val]
  simp (maxSteps := 4000000) (disch := omega) only [Zq, evO, vbox, wr, Zeq, if_true, if_false, Nat.reduceEqDiff, Nat.reduceAdd, Nat.reduceLeDiff, Nat.reduceSub, and_self, and_true, true_and, reduceIte, reduceCtorEq, eq_self, implies_true, forall_const, false_implies, imp_self, decide_true, decide_false, fix_nil, fix_cons, g0, g0l, g0r, g1, g1l, g1r]
  generalize hG2 : (H1.push [.slice none 0 0, .slice none 0 0, .slice none 0 0]).set H1.nxt [v1, w1, u1] = H2
  have k2 : Keep H1 H2 := by rw [← hG2]; repeat' (first | exact Keep.refl _ | assumption | refine Keep.push' ?_ | refine Keep.set' ?_ ?_ | refine Keep.moved' ?_ ?_ | omega)
  have g2 : H2.get H1.nxt = some (.own [v1, w1, u1]) := by rw [← hG2, Zbi, if_pos rfl]
  have n2 : H2.nxt = H1.nxt + 1 := by rw [← hG2, Zbh, Zbg]
  obtain ⟨F0, F1, F2, L2⟩ := own_lk o1 fr n1 k2 (by omega) g2
  have g2a := (k2.get H.nxt (by omega)).trans g1
  have g2l := (k2.get (H.nxt + 1) (by omega)).trans g1l
  have g2r := (k2.get (H.nxt + 2) (by omega)).trans g1r
  have k02 : Keep H H2 := k0.trans (k1.trans k2)
  have k12 := k1.trans k2
  clear hG2 fr o1 g0 g0l g0r g1 g1l g1r
  refine GO_call ((r_impl_LockingOk ((rSlc rInt).rdk hu k02) ((rSlc rRoute).rdk hr k02) ((rSlc rInt).rdk hp k02) ((rSlc rBool).rdk hs k02) ((rSlc rBool).rdk ht k02) tt tl).mono ?_)
  rintro _ H3 ⟨k3, rfl⟩
  have n3 := k3.nxt
  have L3 := L2.keep k3
  have g3a := (k3.get H.nxt (by omega)).trans g2a
  have g3r := (k3.get (H.nxt + 2) (by omega)).trans g2r
  have fin : ∀ (Hx : Heap) (Lx : Lo) (c : Int), KpP (fun a => H0.nxt ≤ a) H3 Hx → Lk (fun a => H0.nxt ≤ a) Hx H1.nxt v1 w1 u1 F0 F1 F2 Lx.1 Lx.2.1 Lx.2.2 → opR opf (under, b, routes) (pos, set, taken) k = (Lx, c) → Hx.get H1.nxt = some (.own [v1, w1, u1]) ∧ Hx.get (H.nxt + 2) = some (.own [.slice none 0 0, .slice none 0 0, .slice none 0 0]) ∧ (Keep H (Hx.set (H.nxt + 2) [v1, w1, u1]) ∧ ∃ cs F, Value.tuple #[.agg #[v1, w1, u1], .int .i64 c] = .tuple #[rLocking.val cs, .int .i64 (opR opf (under, b, routes) (pos, set, taken) k).2] ∧ rLocking.own (Hx.set (H.nxt + 2) [v1, w1, u1]) cs (opR opf (under, b, routes) (pos, set, taken) k).1 F ∧ Fresh H (Hx.set (H.nxt + 2) [v1, w1, u1]) F) := by
    intro Hx Lx c kx L e
    have hx : Keep H Hx := kx.keep (k02.trans k3) (fun a (ha : H0.nxt ≤ a) => by omega)
    have lt : ∀ a ∈ F0 ++ (F1 ++ F2), H0.nxt ≤ a ∧ a < Hx.nxt := fun a ha => ⟨(L.pf a ha).1, rLocking.ownlt (locking_own' L.o0 L.o1 L.o2) a ha⟩
    refine ⟨L.g, (kx.get _ (by omega) (fun hh => by have : H0.nxt ≤ H.nxt + 2 := hh; omega)).trans g3r, hx.set' (by omega), [v1, w1, u1], F0 ++ (F1 ++ F2), by rw [e]; rfl, ?_, L.nd, fun a ha => ?_⟩
    · rw [e]
      refine rLocking.ownk (a := Lx) (locking_own' L.o0 L.o1 L.o2) (by rw [Zbh]; omega) (fun a ha => ?_)
      have := lt a ha
      rw [Zbi, if_neg (by omega)]
    · have := lt a ha
      rw [Zbh]
      omega
  by_cases c1 : lkOk under b routes pos set taken = true
  · simp (maxSteps := 4000000) (disch := omega) only [Zq, evO, vbox, wr, Zeq, if_true, if_false, Nat.reduceEqDiff, Nat.reduceAdd, Nat.reduceLeDiff, Nat.reduceSub, and_self, and_true, true_and, reduceIte, reduceCtorEq, eq_self, implies_true, forall_const, false_implies, imp_self, decide_true, decide_false, fix_nil, fix_cons, g2, g2a, g2l, g2r, g3a, g3r, c1]
    refine GO_call ((hplay (B := H0) (k12.trans k3) (fun a ha => ha) ((rSlc rInt).rdk hu k0) ((rSlc rRoute).rdk hr k0) tt L3 c1).mono ?_)
    rintro _ H4 ⟨k4, L4, rfl⟩
    obtain ⟨g4, g4r, hfin⟩ := fin H4 _ _ k4 L4 (by rw [opR, if_pos c1])
    simp (maxSteps := 4000000) (disch := omega) only [Zq, evO, vbox, wr, Zeq, if_true, if_false, Nat.reduceEqDiff, Nat.reduceAdd, Nat.reduceLeDiff, Nat.reduceSub, and_self, and_true, true_and, reduceIte, reduceCtorEq, eq_self, implies_true, forall_const, false_implies, imp_self, decide_true, decide_false, fix_nil, fix_cons, g2, g2a, g2l, g2r, g3a, g3r, g4, g4r]
    exact hfin
  · have c1' : lkOk under b routes pos set taken = false := by simpa using c1
    obtain ⟨g4, g4r, hfin⟩ := fin H3 (pos, set, taken) 1 (KpP.refl _ _) L3 (by rw [opR, if_neg c1])
    simp (maxSteps := 4000000) (disch := omega) only [Zq, evO, vbox, wr, Zeq, if_true, if_false, Nat.reduceEqDiff, Nat.reduceAdd, Nat.reduceLeDiff, Nat.reduceSub, and_self, and_true, true_and, reduceIte, reduceCtorEq, eq_self, implies_true, forall_const, false_implies, imp_self, decide_true, decide_false, fix_nil, fix_cons, g2, g2a, g2l, g2r, g3a, g3r, g4, g4r, c1']
    exact hfin
theorem r_impl_Vacate {H : Heap} {vu vr vp vs vt : Value} {under : List Int} {b : Int} {routes : List Rt} {pos : List Int} {set taken : List Bool} {k : Int} (hu : (rSlc rInt).rd H [vu] under) (hr : (rSlc rRoute).rd H [vr] routes) (hp : (rSlc rInt).rd H [vp] pos) (hs : (rSlc rBool).rd H [vs] set) (ht : (rSlc rBool).rd H [vt] taken) (tt : rPlant.tot (under, b, routes) ≤ 1048576) (tl : rLocking.tot (pos, set, taken) ≤ 1048576) :
    Run Try.prog 18 [.agg #[vu, .int .i64 b, vr], .agg #[vp, vs, vt], .int .i64 k] H fun r H' => Keep H H' ∧ ∃ cs F, r = .tuple #[rLocking.val cs, .int .i64 (opR vaR (under, b, routes) (pos, set, taken) k).2] ∧ rLocking.own H' cs (opR vaR (under, b, routes) (pos, set, taken) k).1 F ∧ Fresh H H' F := by
  refine Run.intro c18 rfl ?_
  simp (maxSteps := 4000000) (disch := omega) only [Zq, evO, vbox, wr, Zeq, if_true, if_false, Nat.reduceEqDiff, Nat.reduceAdd, Nat.reduceLeDiff, Nat.reduceSub, and_self, and_true, true_and, reduceIte, reduceCtorEq, eq_self, implies_true, forall_const, false_implies, imp_self, decide_true, decide_false, x18]
  generalize hG0 : ((H.push [vu, .int .i64 b, vr]).push [vp, vs, vt]).push [.slice none 0 0, .slice none 0 0, .slice none 0 0] = H0
  have k0 : Keep H H0 := by rw [← hG0]; repeat' (first | exact Keep.refl _ | assumption | refine Keep.push' ?_ | refine Keep.set' ?_ ?_ | refine Keep.moved' ?_ ?_ | omega)
  have g0r : H0.get (H.nxt + 2) = some (.own [.slice none 0 0, .slice none 0 0, .slice none 0 0]) := by rw [← hG0]; simp (maxSteps := 4000000) (disch := omega) only [Zq, evO, vbox, wr, Zeq, if_true, if_false, Nat.reduceEqDiff, Nat.reduceAdd, Nat.reduceLeDiff, Nat.reduceSub, and_self, and_true, true_and, reduceIte, reduceCtorEq, eq_self, implies_true, forall_const, false_implies, imp_self, decide_true, decide_false]
  have n0 : H0.nxt = H.nxt + 3 := by rw [← hG0]; simp only [Zbg]
  clear hG0
  refine GO_call ((r_impl_doLock play_2 ((rSlc rInt).rdk hu k0) ((rSlc rRoute).rdk hr k0) ((rSlc rInt).rdk hp k0) ((rSlc rBool).rdk hs k0) ((rSlc rBool).rdk ht k0) tt tl).mono ?_)
  rintro _ H1 ⟨k1, cs, F, rfl, o1, fr⟩
  have n1 := k1.nxt
  obtain ⟨v1, w1, u1, rfl, _⟩ := locking_rd (x0 := (opR vaR (under, b, routes) (pos, set, taken) k).1.1) (x1 := (opR vaR (under, b, routes) (pos, set, taken) k).1.2.1) (x2 := (opR vaR (under, b, routes) (pos, set, taken) k).1.2.2) (rLocking.ownrd o1)
  have g1r := (k1.get (H.nxt + 2) (by omega)).trans g0r
  simp only [locking_val]
  simp (maxSteps := 4000000) (disch := omega) only [Zq, evO, vbox, wr, Zeq, if_true, if_false, Nat.reduceEqDiff, Nat.reduceAdd, Nat.reduceLeDiff, Nat.reduceSub, and_self, and_true, true_and, reduceIte, reduceCtorEq, eq_self, implies_true, forall_const, false_implies, imp_self, decide_true, decide_false, fix_nil, fix_cons, g0r, g1r]
  refine ⟨(k0.trans k1).set' (by omega), [v1, w1, u1], F, rfl, rLocking.ownk o1 (by rw [Zbh]; omega) (fun a ha => ?_), fr.1, fun a ha => ?_⟩
  · have := fr.2 a ha
    rw [Zbi, if_neg (by omega)]
  · have := fr.2 a ha
    rw [Zbh]
    omega
end Go.Proofs.Ythjphddodooahaa.AX
