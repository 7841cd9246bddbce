/- What holding marks of a slice of bools does. No condition beyond each law's own; nothing of the program. -/
import Derived.Test.YtjjglonmaajjoaaAXs
namespace Go.Proofs.Ytjjglonmaajjoaa.AX
open Go

/-- So that an equation is used as one, and not by computing. -/
theorem nofl {α : Sort _} {a b : α} (h : a = b) : a = b := h
/-! ### A run that may come to several ends comes to one -/
theorem Wops.ex {C : CallRel} : ∀ {os : List XO} {K : Tm → Heap → Prop} {T : Tm} {H : Heap}, Wops C os K T H → ∃ T' H', K T' H' ∧ Wops C os (fun T1 H1 => T1 = T' ∧ H1 = H') T H
  | [], K, T, H, h => ⟨T, H, h, rfl, rfl⟩
  | o :: os, K, T, H, h => by
    simp only [Wops] at h ⊢
    by_cases hw : wanted T o.guard = true
    · rw [if_pos hw] at h
      obtain ⟨v, H1, h1, h2⟩ := h.ex
      obtain ⟨T', H', h3, h4⟩ := Wops.ex h2
      refine ⟨T', H', h3, ?_⟩
      rw [if_pos hw]
      exact h1.imp (fun _ _ _ _ _ h => h) (fun v0 H0 ⟨e1, e2⟩ => by subst e1; subst e2; exact h4)
    · rw [if_neg hw] at h
      obtain ⟨T', H', h3, h4⟩ := Wops.ex h
      refine ⟨T', H', h3, ?_⟩
      rw [if_neg hw]
      exact h4
theorem Dops.ex {C : CallRel} {pre : List (List Nat)} : ∀ {os : List XO} {i : Nat} {tr : List Tr} {K : Tm → Heap → Prop} {T : Tm} {H : Heap}, Dops C pre i os tr K T H → ∃ T' H', K T' H' ∧ Dops C pre i os tr (fun T1 H1 => T1 = T' ∧ H1 = H') T H
  | [], i, tr, K, T, H, h => ⟨T, H, h.2, h.1, rfl, rfl⟩
  | o :: os, i, tr, K, T, H, h => by
    simp only [Dops] at h ⊢
    by_cases hw : wanted T o.guard = true
    · rw [if_pos hw] at h
      obtain ⟨v, H1, h1, h2⟩ := h.ex
      obtain ⟨T', H', h3, h4⟩ := Dops.ex h2
      refine ⟨T', H', h3, ?_⟩
      rw [if_pos hw]
      exact h1.imp (fun _ _ _ _ _ h => h) (fun v0 H0 ⟨e1, e2⟩ => by subst e1; subst e2; exact h4)
    · rw [if_neg hw] at h
      obtain ⟨T', H', h3, h4⟩ := Dops.ex h
      refine ⟨T', H', h3, ?_⟩
      rw [if_neg hw]
      exact h4
def Same3 (e : XE) (T : Tm) (H : Heap) : XE → Tm → Heap → Prop := fun e1 T1 H1 => e1 = e ∧ T1 = T ∧ H1 = H
theorem W.ex {C : CallRel} : ∀ (c : X) {K : XE → Tm → Heap → Prop} {T : Tm} {H : Heap}, W C c K T H → ∃ e T' H', K e T' H' ∧ W C c (Same3 e T' H') T H
  | .skip, K, T, H, h => ⟨.nrm, T, H, h, rfl, rfl, rfl⟩
  | .reg os, K, T, H, h => by
    obtain ⟨T', H', h1, h2⟩ := Wops.ex h
    exact ⟨.nrm, T', H', h1, Wops.imp (fun _ _ _ _ _ h => h) (fun T1 H1 ⟨e1, e2⟩ => ⟨rfl, e1, e2⟩) h2⟩
  | .dreg pre os, K, T, H, h => by
    obtain ⟨T', H', h1, h2⟩ := Dops.ex h
    exact ⟨.nrm, T', H', h1, Dops.imp (fun _ _ _ _ _ h => h) (fun T1 H1 ⟨e1, e2⟩ => ⟨rfl, e1, e2⟩) h2⟩
  | .seq a b, K, T, H, h => by
    obtain ⟨e, T1, H1, h1, h2⟩ := W.ex a h
    cases e with
    | nrm =>
      obtain ⟨e2, T2, H2, h3, h4⟩ := W.ex b h1
      refine ⟨e2, T2, H2, h3, W.imp (fun _ _ _ _ _ h => h) a (fun e' T' H' h5 => ?_) h2⟩
      obtain ⟨rfl, rfl, rfl⟩ := h5
      exact h4
    | ex i =>
      refine ⟨.ex i, T1, H1, h1, W.imp (fun _ _ _ _ _ h => h) a (fun e' T' H' h5 => ?_) h2⟩
      obtain ⟨rfl, rfl, rfl⟩ := h5
      exact ⟨rfl, rfl, rfl⟩
    | rt =>
      refine ⟨.rt, T1, H1, h1, W.imp (fun _ _ _ _ _ h => h) a (fun e' T' H' h5 => ?_) h2⟩
      obtain ⟨rfl, rfl, rfl⟩ := h5
      exact ⟨rfl, rfl, rfl⟩
  | .cond x a b, K, T, H, h => by
    simp only [W, bcond] at h ⊢
    split at h
    · split at h
      · rename_i hb
        obtain ⟨e, T', H', h1, h2⟩ := W.ex a h
        exact ⟨e, T', H', h1, by rw [if_pos hb]; exact h2⟩
      · rename_i hb
        obtain ⟨e, T', H', h1, h2⟩ := W.ex b h
        exact ⟨e, T', H', h1, by rw [if_neg hb]; exact h2⟩
    · exact h.elim
  | .block id a, K, T, H, h => by
    obtain ⟨e, T1, H1, h1, h2⟩ := W.ex a h
    cases e with
    | nrm =>
      refine ⟨.nrm, T1, H1, h1, W.imp (fun _ _ _ _ _ h => h) a (fun e' T' H' h5 => ?_) h2⟩
      obtain ⟨rfl, rfl, rfl⟩ := h5
      exact ⟨rfl, rfl, rfl⟩
    | ex i =>
      simp only [inBlock] at h1
      by_cases hi : i = id
      · rw [if_pos hi] at h1
        refine ⟨.nrm, T1, H1, h1, W.imp (fun _ _ _ _ _ h => h) a (fun e' T' H' h5 => ?_) h2⟩
        obtain ⟨rfl, rfl, rfl⟩ := h5
        simp only [inBlock, if_pos hi]
        exact ⟨rfl, rfl, rfl⟩
      · rw [if_neg hi] at h1
        refine ⟨.ex i, T1, H1, h1, W.imp (fun _ _ _ _ _ h => h) a (fun e' T' H' h5 => ?_) h2⟩
        obtain ⟨rfl, rfl, rfl⟩ := h5
        simp only [inBlock, if_neg hi]
        exact ⟨rfl, rfl, rfl⟩
    | rt =>
      refine ⟨.rt, T1, H1, h1, W.imp (fun _ _ _ _ _ h => h) a (fun e' T' H' h5 => ?_) h2⟩
      obtain ⟨rfl, rfl, rfl⟩ := h5
      exact ⟨rfl, rfl, rfl⟩
  | .loop a, K, T, H, h => by
    obtain ⟨n, h⟩ := h
    have key : ∀ n T H, lp (W C a) K n T H → ∃ e T' H', K e T' H' ∧ lp (W C a) (Same3 e T' H') n T H := by
      intro n
      induction n with
      | zero => intro T H h; exact h.elim
      | succ n ih =>
        intro T H h
        obtain ⟨e, T1, H1, h1, h2⟩ := W.ex a h
        cases e with
        | nrm =>
          obtain ⟨e2, T2, H2, h3, h4⟩ := ih T1 H1 h1
          refine ⟨e2, T2, H2, h3, W.imp (fun _ _ _ _ _ h => h) a (fun e' T' H' h5 => ?_) h2⟩
          obtain ⟨rfl, rfl, rfl⟩ := h5
          exact h4
        | ex i =>
          refine ⟨.ex i, T1, H1, h1, W.imp (fun _ _ _ _ _ h => h) a (fun e' T' H' h5 => ?_) h2⟩
          obtain ⟨rfl, rfl, rfl⟩ := h5
          exact ⟨rfl, rfl, rfl⟩
        | rt =>
          refine ⟨.rt, T1, H1, h1, W.imp (fun _ _ _ _ _ h => h) a (fun e' T' H' h5 => ?_) h2⟩
          obtain ⟨rfl, rfl, rfl⟩ := h5
          exact ⟨rfl, rfl, rfl⟩
    obtain ⟨e, T', H', h1, h2⟩ := key n T H h
    exact ⟨e, T', H', h1, n, h2⟩
  | .exit id, K, T, H, h => ⟨.ex id, T, H, h, rfl, rfl, rfl⟩
  | .ret, K, T, H, h => ⟨.rt, T, H, h, rfl, rfl, rfl⟩
/-- A call comes to an end of which R holds. -/
def Run (P : Program) (f : FuncId) (xs : List Value) (H : Heap) (R : Value → Heap → Prop) : Prop := ∃ v H', CR P f xs H v H' ∧ R v H'
theorem Run.mono {P : Program} {f : FuncId} {xs : List Value} {H : Heap} {R R' : Value → Heap → Prop} (h : Run P f xs H R) (hi : ∀ v H', R v H' → R' v H') : Run P f xs H R' := by
  obtain ⟨v, H', h1, h2⟩ := h
  exact ⟨v, H', h1, hi _ _ h2⟩
/-! ### Code over a stack -/
inductive Fr where
  | seq (b : X)
  | blk (id : Nat)
  | inv (J : Tm → Heap → Prop)
def kont (C : CallRel) (Q : XE → Tm → Heap → Prop) : List Fr → XE → Tm → Heap → Prop
  | [] => Q
  | .seq b :: ks => then_ (W C b (kont C Q ks)) (kont C Q ks)
  | .blk id :: ks => inBlock id (kont C Q ks)
  | .inv J :: ks => then_ J (kont C Q ks)
def G (C : CallRel) (c : X) (ks : List Fr) (Q : XE → Tm → Heap → Prop) (T : Tm) (H : Heap) : Prop := W C c (kont C Q ks) T H
def GO (C : CallRel) (os : List XO) (ks : List Fr) (Q : XE → Tm → Heap → Prop) (T : Tm) (H : Heap) : Prop := Wops C os (kont C Q ks .nrm) T H
def GD (C : CallRel) (pre : List (List Nat)) (i : Nat) (os : List XO) (tr : List Tr) (ks : List Fr) (Q : XE → Tm → Heap → Prop) (T : Tm) (H : Heap) : Prop := Dops C pre i os tr (kont C Q ks .nrm) T H
def GX (C : CallRel) (e : XE) (ks : List Fr) (Q : XE → Tm → Heap → Prop) (T : Tm) (H : Heap) : Prop := kont C Q ks e T H
/-- What a function's end is asked. -/
def Fin (rs : List XRes) (R : Value → Heap → Prop) : XE → Tm → Heap → Prop := fun e T H => (match e with | .ex _ => False | _ => True) ∧ ∃ vs, resAll T H rs = some vs ∧ R (one_ vs) H
theorem Run.intro {P : Program} {f : FuncId} {F : XFun} (hF : cfun P f = some F) {xs : List Value} (ha : xs.length = F.args) {H : Heap} {R : Value → Heap → Prop} (h : G (CR P) F.body [] (Fin F.res R) (T0 xs) H) : Run P f xs H R := by
  obtain ⟨e, T', H', ⟨h1, vs, h2, h3⟩, h4⟩ := W.ex F.body h
  refine ⟨one_ vs, H', CR.intro hF ha (W.imp (fun _ _ _ _ _ h => h) F.body (fun e1 T1 H1 h5 => ?_) h4), h3⟩
  obtain ⟨rfl, rfl, rfl⟩ := h5
  exact ⟨h1, rfl, vs, h2, rfl⟩
section
variable {C : CallRel} {ks : List Fr} {Q : XE → Tm → Heap → Prop} {T : Tm} {H : Heap} {os : List XO} {d : Option Nat}
theorem Zaa : G C .skip ks Q T H = GX C .nrm ks Q T H := nofl rfl
theorem Zab {a b : X} : G C (.seq a b) ks Q T H = G C a (.seq b :: ks) Q T H := nofl rfl
theorem Zac : G C (.reg os) ks Q T H = GO C os ks Q T H := nofl rfl
theorem G_dreg {pre : List (List Nat)} : G C (.dreg pre os) ks Q T H = GD C pre 0 os [] ks Q T H := nofl rfl
theorem Zad {id : Nat} {a : X} : G C (.block id a) ks Q T H = G C a (.blk id :: ks) Q T H := nofl rfl
theorem Zae {id : Nat} : G C (.exit id) ks Q T H = GX C (.ex id) ks Q T H := nofl rfl
theorem Zaf : G C .ret ks Q T H = GX C .rt ks Q T H := nofl rfl
def cK (C : CallRel) (v : Value) (a b : X) (ks : List Fr) (Q : XE → Tm → Heap → Prop) (T : Tm) (H : Heap) : Prop := bcond v (G C a ks Q T H) (G C b ks Q T H)
theorem Zag {x : XArg} {a b : X} : G C (.cond x a b) ks Q T H = cK C (ev T x) a b ks Q T H := nofl rfl
theorem Zah {a b : X} : cK C (.bool true) a b ks Q T H = G C a ks Q T H := by simp [cK, bcond]
theorem Zai {a b : X} : cK C (.bool false) a b ks Q T H = G C b ks Q T H := by simp [cK, bcond]
theorem Zaj {e : XE} : GX C e [] Q T H = Q e T H := nofl rfl
theorem Zak {b : X} : GX C .nrm (.seq b :: ks) Q T H = G C b ks Q T H := nofl rfl
theorem Zal {b : X} {i : Nat} : GX C (.ex i) (.seq b :: ks) Q T H = GX C (.ex i) ks Q T H := nofl rfl
theorem Zam {b : X} : GX C .rt (.seq b :: ks) Q T H = GX C .rt ks Q T H := nofl rfl
theorem Zan {id : Nat} : GX C .nrm (.blk id :: ks) Q T H = GX C .nrm ks Q T H := nofl rfl
theorem Zao {id : Nat} : GX C .rt (.blk id :: ks) Q T H = GX C .rt ks Q T H := nofl rfl
theorem Zap {id i : Nat} : GX C (.ex i) (.blk id :: ks) Q T H = if i = id then GX C .nrm ks Q T H else GX C (.ex i) ks Q T H := nofl rfl
theorem Zaq {J : Tm → Heap → Prop} : GX C .nrm (.inv J :: ks) Q T H = J T H := nofl rfl
theorem Zar {J : Tm → Heap → Prop} {i : Nat} : GX C (.ex i) (.inv J :: ks) Q T H = GX C (.ex i) ks Q T H := nofl rfl
theorem Zas {J : Tm → Heap → Prop} : GX C .rt (.inv J :: ks) Q T H = GX C .rt ks Q T H := nofl rfl
theorem Zat : GO C [] ks Q T H = GX C .nrm ks Q T H := nofl rfl
/-- What is to come behind an operation that yields r. -/
def oK (C : CallRel) (d : Option Nat) (os : List XO) (ks : List Fr) (Q : XE → Tm → Heap → Prop) (T : Tm) (r : Option (Value × Heap)) : Prop := match r with
  | some p => GO C os ks Q (put T d p.1) p.2
  | none => False
theorem Zau {v : Value} {H' : Heap} : oK C d os ks Q T (some (v, H')) = GO C os ks Q (put T d v) H' := nofl rfl
def isCall : XOp → Bool
  | .call .. | .calld .. => true
  | _ => false
theorem GO_op {op : XOp} (h : isCall op = false) : GO C (⟨d, op, none⟩ :: os) ks Q T H = oK C d os ks Q T (step T H op) := by
  cases op <;> simp only [isCall, reduceCtorEq] at h <;> simp only [GO, Wops, wanted, if_true, Op1, oK] <;> rfl
def gK (C : CallRel) (v : Value) (w : Bool) (d : Option Nat) (op : XOp) (os : List XO) (ks : List Fr) (Q : XE → Tm → Heap → Prop) (T : Tm) (H : Heap) : Prop :=
  if (match v with | .bool b => b == w | _ => false) = true then GO C (⟨d, op, none⟩ :: os) ks Q T H else GO C os ks Q (put T d undef) H
theorem Zav {op : XOp} {t : Nat} {w : Bool} : GO C (⟨d, op, some (t, w)⟩ :: os) ks Q T H = gK C (T t) w d op os ks Q T H := by
  simp only [GO, gK, Wops, wanted]
  rfl
theorem Zaw {op : XOp} : gK C (.bool true) true d op os ks Q T H = GO C (⟨d, op, none⟩ :: os) ks Q T H := by simp [gK]
theorem Zax {op : XOp} : gK C (.bool true) false d op os ks Q T H = GO C os ks Q (put T d undef) H := by simp [gK]
theorem Zay {op : XOp} : gK C (.bool false) true d op os ks Q T H = GO C os ks Q (put T d undef) H := by simp [gK]
theorem Zaz {op : XOp} : gK C (.bool false) false d op os ks Q T H = GO C (⟨d, op, none⟩ :: os) ks Q T H := by simp [gK]
theorem Zba {op : XOp} {w : Bool} : gK C undef w d op os ks Q T H = GO C os ks Q (put T d undef) H := by simp [gK, undef]
/-- A call. -/
theorem GO_call {P : Program} {f : FuncId} {xs : List XArg} (h : Run P f (xs.map (ev T)) H fun v H' => GO (CR P) os ks Q (put T d v) H') : GO (CR P) (⟨d, .call f xs, none⟩ :: os) ks Q T H := by
  obtain ⟨v, H', h1, h2⟩ := h
  exact ⟨v, H', h1, h2⟩
/-- A call of a closure. -/
theorem GO_calld {P : Program} {x : XArg} {f : FuncId} {cs : Array Value} {xs : List XArg} (e : ev T x = .func (.func f) #[] cs) (h : Run P f (xs.map (ev T) ++ cs.toList) H fun v H' => GO (CR P) os ks Q (put T d v) H') : GO (CR P) (⟨d, .calld x xs, none⟩ :: os) ks Q T H := by
  obtain ⟨v, H', h1, h2⟩ := h
  exact ⟨f, cs, e, v, H', h1, h2⟩
/-- A loop, by what holds ahead of each round, and a number that falls. -/
theorem G_loop {a : X} (I : Nat → Tm → Heap → Prop) (k : Nat) (h0 : I k T H) (hs : ∀ k T H, I k T H → G C a (.inv (fun T' H' => ∃ j, j < k ∧ I j T' H') :: ks) Q T H) : G C (.loop a) ks Q T H := by
  have mono : ∀ n T H, lp (W C a) (kont C Q ks) n T H → lp (W C a) (kont C Q ks) (n + 1) T H := by
    intro n
    induction n with
    | zero => intro T H h; exact h.elim
    | succ n ih =>
      intro T H h
      refine W.imp (fun _ _ _ _ _ h => h) a (fun e T' H' h1 => ?_) h
      cases e with
      | nrm => exact ih _ _ h1
      | ex i => exact h1
      | rt => exact h1
  have up : ∀ n m T H, n ≤ m → lp (W C a) (kont C Q ks) n T H → lp (W C a) (kont C Q ks) m T H := by
    intro n m T H h h1
    induction m with
    | zero => obtain rfl : n = 0 := (by omega); exact h1
    | succ m ih =>
      by_cases e : n = m + 1
      · subst e; exact h1
      · exact mono _ _ _ (ih (by omega))
  have key : ∀ k T H, I k T H → lp (W C a) (kont C Q ks) (k + 1) T H := by
    intro k
    induction k using Nat.strongRecOn with
    | _ k ih =>
      intro T H h
      refine W.imp (fun _ _ _ _ _ h => h) a (fun e T' H' h1 => ?_) (hs k T H h)
      cases e with
      | nrm =>
        obtain ⟨j, hj, h2⟩ := h1
        exact up (j + 1) k _ _ (by omega) (ih j hj _ _ h2)
      | ex i => exact h1
      | rt => exact h1
  exact ⟨k + 1, key k T H h0⟩
/-- A loop that counts up to n. -/
theorem G_for {a : X} (n : Nat) (I : Nat → Tm → Heap → Prop) (i0 : Nat) (hi : i0 ≤ n) (h0 : I i0 T H) (hs : ∀ i T H, i ≤ n → I i T H → G C a (.inv (fun T' H' => i < n ∧ I (i + 1) T' H') :: ks) Q T H) : G C (.loop a) ks Q T H := by
  refine G_loop (fun k T H => ∃ i, i + k = n ∧ I i T H) (n - i0) ⟨i0, by omega, h0⟩ ?_
  rintro k T H ⟨i, h1, h2⟩
  refine W.imp (fun _ _ _ _ _ h => h) a (fun e T' H' h3 => ?_) (hs i T H (by omega) h2)
  cases e with
  | nrm =>
    obtain ⟨h4, h5⟩ := h3
    exact ⟨k - 1, by omega, i + 1, by omega, h5⟩
  | ex i => exact h3
  | rt => exact h3
/-! ### Regions of open order without what could tell orders apart -/
def calm (os : List XO) : Bool := os.all fun o => !kindE o.op && !kindA o.op
theorem stable_L {pre : List (List Nat)} : ∀ {tr : List Tr}, (∀ t ∈ tr, ∃ i x, t = .L i x) → stable pre tr
  | [], _ => trivial
  | t :: tr, h => by
    obtain ⟨i, x, rfl⟩ := h t (by simp)
    refine ⟨?_, stable_L (fun t ht => h t (by simp [ht]))⟩
    have h' : ∀ u ∈ tr, ∃ i x, u = .L i x := fun t ht => h t (by simp [ht])
    clear h
    induction tr with
    | nil => trivial
    | cons u us ih =>
      obtain ⟨j, y, rfl⟩ := h' u (by simp)
      exact ⟨trivial, ih (fun t ht => h' t (by simp [ht]))⟩
theorem calm_dops {pre : List (List Nat)} : ∀ {os : List XO} {i : Nat} {tr : List Tr} {K : Tm → Heap → Prop} {T : Tm} {H : Heap}, calm os = true → (∀ t ∈ tr, ∃ i x, t = .L i x) → Wops C os K T H → Dops C pre i os tr K T H
  | [], i, tr, K, T, H, _, ht, h => ⟨stable_L ht, h⟩
  | o :: os, i, tr, K, T, H, hc, ht, h => by
    simp only [calm, List.all_cons, Bool.and_eq_true, Bool.not_eq_true'] at hc
    have hc' : calm os = true := by simp only [calm, List.all_eq_true, Bool.and_eq_true, Bool.not_eq_true']; simpa [List.all_eq_true] using hc.2
    simp only [Wops, Dops] at h ⊢
    split
    · rename_i hw
      rw [if_pos hw] at h
      have key : ∀ v H', Wops C os K (put T o.dst v) H' → Dops C pre (i + 1) os (trOf i T H H' o.op ++ tr) K (put T o.dst v) H' := fun v H' h1 => by
        refine calm_dops hc' (fun t ht' => ?_) h1
        rcases List.mem_append.1 ht' with h2 | h2
        · have hE := hc.1.1
          have hA := hc.1.2
          cases hop : o.op <;> rw [hop] at hE hA h2 <;> simp only [kindE, kindA, reduceCtorEq] at hE hA <;> simp only [trOf] at h2
          case load1 =>
            split at h2
            · exact ⟨_, _, List.mem_singleton.1 h2⟩
            · cases h2
          case loadN =>
            split at h2
            · exact ⟨_, _, List.mem_singleton.1 h2⟩
            · cases h2
          case b2s =>
            split at h2
            · exact ⟨_, _, List.mem_singleton.1 h2⟩
            · cases h2
          all_goals cases h2
        · exact ht t h2
      exact h.imp (fun _ _ _ _ _ h => h) key
    · rename_i hw
      rw [if_neg hw] at h
      exact calm_dops hc' ht h
theorem G_calm {pre : List (List Nat)} (hc : calm os = true) (h : GO C os ks Q T H) : G C (.dreg pre os) ks Q T H := calm_dops hc (fun _ h => by cases h) h
end
/-! ### What is looked up -/
theorem Zbb {T : Tm} {d : Nat} {v : Value} {t : Nat} : upd T d v t = if t = d then v else T t := nofl rfl
theorem Zbc {T : Tm} {d : Nat} {v : Value} : put T (some d) v = upd T d v := nofl rfl
theorem Zbd {T : Tm} {v : Value} : put T none v = T := nofl rfl
theorem Zbe {T : Tm} {t : Nat} : ev T (.tmp t) = T t := nofl rfl
theorem Zbf {T : Tm} {v : Value} : ev T (.const v) = v := nofl rfl
theorem T0_1 {a : Value} : T0 [a] = upd (fun _ => undef) 0 a := by funext t; rcases t with _ | t <;> simp [T0, upd]
theorem T0_2 {a b : Value} : T0 [a, b] = upd (upd (fun _ => undef) 0 a) 1 b := by funext t; rcases t with _ | _ | t <;> simp [T0, upd]
theorem T0_3 {a b c : Value} : T0 [a, b, c] = upd (upd (upd (fun _ => undef) 0 a) 1 b) 2 c := by funext t; rcases t with _ | _ | _ | t <;> simp [T0, upd]
theorem T0_4 {a b c d : Value} : T0 [a, b, c, d] = upd (upd (upd (upd (fun _ => undef) 0 a) 1 b) 2 c) 3 d := by funext t; rcases t with _ | _ | _ | _ | t <;> simp [T0, upd]
theorem T0_5 {a b c d e : Value} : T0 [a, b, c, d, e] = upd (upd (upd (upd (upd (fun _ => undef) 0 a) 1 b) 2 c) 3 d) 4 e := by funext t; rcases t with _ | _ | _ | _ | _ | t <;> simp [T0, upd]
theorem Zbg {H : Heap} {cs : List Value} : (H.push cs).nxt = H.nxt + 1 := nofl rfl
theorem push_get' {H : Heap} {cs : List Value} {x : Nat} : (H.push cs).get x = if x = H.nxt then some (.own cs) else H.get x := nofl rfl
theorem Zbh {H : Heap} {i : Nat} {cs : List Value} : (H.set i cs).nxt = H.nxt := nofl rfl
theorem Zbi {H : Heap} {i : Nat} {cs : List Value} {x : Nat} : (H.set i cs).get x = if x = i then some (.own cs) else H.get x := nofl rfl
theorem Zbj {H : Heap} {i : Nat} {cs : List Value} : (H.moved i cs).nxt = H.nxt + 1 := nofl rfl
theorem Zbk {H : Heap} {i : Nat} {cs : List Value} {x : Nat} : (H.moved i cs).get x = if x = H.nxt then some (.own cs) else if x = i then none else H.get x := nofl rfl
theorem Keep.push' {H H1 : Heap} {cs : List Value} (h : Keep H H1) : Keep H (H1.push cs) := h.trans (Keep.push _ _)
theorem Keep.set' {H H1 : Heap} {i : Nat} {cs : List Value} (h : Keep H H1) (hi : H.nxt ≤ i) : Keep H (H1.set i cs) := ⟨h.nxt, fun x hx => by rw [Zbi, if_neg (by omega)]; exact h.get x hx⟩
theorem Keep.moved' {H H1 : Heap} {i : Nat} {cs : List Value} (h : Keep H H1) (hi : H.nxt ≤ i) : Keep H (H1.moved i cs) := ⟨Nat.le_succ_of_le h.nxt, fun x hx => by rw [Zbk, if_neg (by have := h.nxt; omega), if_neg (by omega)]; exact h.get x hx⟩
end Go.Proofs.Ytjjglonmaajjoaa.AX
namespace Go.Proofs.Ytjjglonmaajjoaa.AX
open Go

def ptr (i o : Nat) : Value := .pointer (some ⟨i, o, none⟩)
def lkC (H : Heap) : Option Value → Option (Value × Heap)
  | some v => some (v, H)
  | none => none
def lkO (H : Heap) (o : Nat) : Option Obj → Option (Value × Heap)
  | some ob => lkC H ob.cells[o]?
  | none => none
def vld1 (H : Heap) : Value → Option (Value × Heap)
  | .pointer (some ⟨i, o, none⟩) => lkO H o (H.get i)
  | _ => none
def ldN (H : Heap) (o n : Nat) : Option Obj → Option (Value × Heap)
  | some ob => if o + n ≤ ob.cells.length then some (.agg ((ob.cells.drop o).take n).toArray, H) else none
  | none => none
def vldN (H : Heap) (n : Nat) : Value → Option (Value × Heap)
  | .pointer (some ⟨i, o, none⟩) => ldN H o n (H.get i)
  | _ => none
def stO (H : Heap) (n i o : Nat) (x : Value) : Option Obj → Option (Value × Heap)
  | some (.own cs) => if noTup x = true ∧ (vcells x).length = n ∧ o + n ≤ cs.length then some (undef, H.set i (wr cs o (vcells x))) else none
  | _ => none
def vst (H : Heap) (n : Nat) (x : Value) : Value → Option (Value × Heap)
  | .pointer (some ⟨i, o, none⟩) => stO H n i o x (H.get i)
  | _ => none
def vbox (H : Heap) (v : Value) : Option (Value × Heap) := if noTup v = true then some (ptr H.nxt 0, H.push (vcells v)) else none
def vagg (H : Heap) : Option (List Value) → Option (Value × Heap)
  | some cs => some (.agg cs.toArray, H)
  | none => none
def vbsl (H : Heap) (sz len : Nat) : Option (List Value) → Option (Value × Heap)
  | some cs => some (.slice (some ⟨H.nxt, 0, none⟩) len sz, H.push cs)
  | none => none
def vval (H : Heap) : Option Value → Option (Value × Heap)
  | some v => some (v, H)
  | none => none
def vpick (H : Heap) (a b : Value) : Value → Option (Value × Heap)
  | .bool t => some (if t = true then a else b, H)
  | _ => none
def vfad (H : Heap) (off : Nat) : Value → Option (Value × Heap)
  | .pointer (some ⟨i, o, none⟩) => some (.pointer (some ⟨i, o + off, none⟩), H)
  | _ => none
def vfdv1 (H : Heap) (off : Nat) : Value → Option (Value × Heap)
  | .agg cs => lkC H cs[off]?
  | _ => none
def vfdvN (H : Heap) (off n : Nat) : Value → Option (Value × Heap)
  | .agg cs => some (.agg ((cs.toList.drop off).take n).toArray, H)
  | _ => none
def vlen (H : Heap) : Value → Option (Value × Heap)
  | .slice none 0 0 => some (.int .i64 0, H)
  | .slice (some ⟨_, _, none⟩) n _ => some (.int .i64 n, H)
  | _ => none
def vlenS (H : Heap) : Value → Option (Value × Heap)
  | .string s => some (.int .i64 s.size, H)
  | _ => none
def vnil (H : Heap) : Value → Option (Value × Heap)
  | .pointer (some a) => some (.pointer (some a), H)
  | _ => none
def vidx (H : Heap) (sz : Nat) (x i : Value) : Option (Value × Heap) := match x, i with
  | .slice (some ⟨b, o, none⟩) n sz', .int _ j => if sz' = sz ∧ 0 ≤ j ∧ j < n then some (.pointer (some ⟨b, o + j.toNat * sz, none⟩), H) else none
  | _, _ => none
def vaidx (H : Heap) (len sz : Nat) (x i : Value) : Option (Value × Heap) := match x, i with
  | .pointer (some ⟨b, o, none⟩), .int _ j => if 0 ≤ j ∧ j < len then some (.pointer (some ⟨b, o + j.toNat * sz, none⟩), H) else none
  | _, _ => none
def vext (H : Heap) (i : Nat) : Value → Option (Value × Heap)
  | .tuple vs => lkC H vs[i]?
  | _ => none
def vmks (H : Heap) (sz bytes : Nat) (z : List Value) (l c : Value) : Option (Value × Heap) := match l, c with
  | .int .i64 l, .int .i64 c => if 0 ≤ l ∧ l ≤ c ∧ c ≤ 9223372036854775807 ∧ (bytes : Int) * c ≤ 140737488355328 then some (.slice (some ⟨H.nxt, 0, none⟩) l.toNat sz, H.push ((List.replicate l.toNat z).flatten)) else none
  | _, _ => none
def vtoInt (H : Heap) (k : IntKind) : Value → Option (Value × Heap)
  | .int _ n => some (.int k (k.wrap n), H)
  | _ => none
def vtoFlt (H : Heap) (k : FloatKind) : Value → Option (Value × Heap)
  | .int _ n => some (.float k (k.nearest n), H)
  | _ => none
def vfltOf (H : Heap) (k : FloatKind) : Value → Option (Value × Heap)
  | .float k' b => if k' = k then some (.float k' b, H) else none
  | _ => none
def vbinB (H : Heap) (neg : Bool) (x y : Value) : Option (Value × Heap) := match x, y with
  | .bool a, .bool b => some (.bool (if neg then !(a == b) else a == b), H)
  | _, _ => none
def vmm (H : Heap) (mx : Bool) (x y : Value) : Option (Value × Heap) := match x, y with
  | .int k a, .int k' b => if k = k' then some (.int k (if mx then (if b > a then b else a) else (if b < a then b else a)), H) else none
  | _, _ => none
def bnd (y : Nat) : Value → Option Nat
  | .int _ i => if 0 ≤ i ∧ i ≤ y then some i.toNat else none
  | _ => none
def evO (T : Tm) : Option XArg → Option Value
  | some x => some (ev T x)
  | none => none
/-- The bounds of a slice of a slice, out of the values. -/
def bnds (len cap : Nat) (lo hi mx : Option Value) : Option (Nat × Nat × Nat) :=
  (match mx with | some v => bnd cap v | none => some cap).bind fun m =>
  (match hi with | some v => bnd (match mx with | some _ => m | none => cap) v | none => (match mx with | some _ => none | none => some len)).bind fun h =>
  (match lo with | some v => bnd h v | none => some 0).bind fun l => some (l, h, m)
def vslc (H : Heap) (sz : Nat) (lo hi mx : Option Value) : Value → Option (Value × Heap)
  | .slice (some ⟨i, o, none⟩) n sz' => if sz' = sz then (bnds n n lo hi mx).map fun (l, h, _) => (.slice (some ⟨i, o + l * sz, none⟩) (h - l) sz, H) else none
  | .slice none 0 0 => (bnds 0 0 lo hi mx).map fun _ => (.slice none 0 0, H)
  | _ => none
def vapp (H : Heap) (sz bytes : Nat) (s x : Value) : Option (Value × Heap) := match s, x with
    | sv, .slice none 0 0 => (match sv with | .slice none 0 0 | .slice (some _) _ _ => some (sv, H) | _ => none)
    | sv, .slice (some ⟨j, p, none⟩) k sz' =>
      if k = 0 then (match sv with | .slice none 0 0 | .slice (some _) _ _ => some (sv, H) | _ => none) else
      match H.get j with
      | some ob => if sz' = sz ∧ p + k * sz ≤ ob.cells.length then
          (match sv with
          | .slice none 0 0 => if k * bytes ≤ 140737488355328 then some (.slice (some ⟨H.nxt, 0, none⟩) k sz, H.push ((ob.cells.drop p).take (k * sz))) else none
          | .slice (some ⟨i, o, none⟩) n sz'' => match H.get i with
            | some (.own cs) => if sz'' = sz ∧ o + n * sz ≤ cs.length ∧ (n + k) * bytes ≤ 140737488355328 then some (.slice (some ⟨H.nxt, 0, none⟩) (n + k) sz, H.moved i ((cs.drop o).take (n * sz) ++ (ob.cells.drop p).take (k * sz))) else none
            | _ => none
          | _ => none)
        else none
      | none => none
    | _, _ => none
section
variable {T : Tm} {H : Heap}
theorem step_mov {x : XArg} : step T H (.mov x) = some (ev T x, H) := nofl rfl
theorem step_pick {c a b : XArg} : step T H (.pick c a b) = vpick H (ev T a) (ev T b) (ev T c) := nofl rfl
theorem step_new {zs : List Value} : step T H (.new zs) = some (ptr H.nxt 0, H.push zs) := nofl rfl
theorem step_box {x : XArg} : step T H (.box x) = vbox H (ev T x) := nofl rfl
theorem step_agg {zs : List Value} {ps : List (Nat × Nat × XArg)} : step T H (.agg zs ps) = vagg H (Zeq zs (ps.map fun p => (p.1, p.2.1, ev T p.2.2))) := by
  simp only [step]; cases Zeq zs (ps.map fun p => (p.1, p.2.1, ev T p.2.2)) <;> rfl
theorem step_bsl {sz len : Nat} {zs : List Value} {ps : List (Nat × Nat × XArg)} : step T H (.bsl sz len zs ps) = vbsl H sz len (Zeq zs (ps.map fun p => (p.1, p.2.1, ev T p.2.2))) := by
  simp only [step]; cases Zeq zs (ps.map fun p => (p.1, p.2.1, ev T p.2.2)) <;> rfl
theorem step_load1 {p : XArg} : step T H (.load1 p) = vld1 H (ev T p) := by
  simp only [step]
  cases ev T p with
  | pointer a =>
    rcases a with _ | ⟨i, o, _ | _⟩
    · rfl
    · simp only [vld1, lkO]
      cases H.get i with
      | none => rfl
      | some ob => cases h : ob.cells[o]? <;> simp [lkC, h]
    · rfl
  | _ => rfl
theorem step_loadN {n : Nat} {p : XArg} : step T H (.loadN n p) = vldN H n (ev T p) := by
  simp only [step]
  cases ev T p with
  | pointer a =>
    rcases a with _ | ⟨i, o, _ | _⟩
    · rfl
    · simp only [vldN, ldN]
      cases H.get i <;> rfl
    · rfl
  | _ => rfl
theorem step_store {n : Nat} {p x : XArg} : step T H (.store n p x) = vst H n (ev T x) (ev T p) := by
  simp only [step]
  cases ev T p with
  | pointer a =>
    rcases a with _ | ⟨i, o, _ | _⟩
    · rfl
    · simp only [vst, stO]
      cases H.get i with
      | none => rfl
      | some ob => cases ob <;> rfl
    · rfl
  | _ => rfl
theorem step_nilc {x : XArg} : step T H (.nilc x) = vnil H (ev T x) := by
  simp only [step]
  cases ev T x with
  | pointer a => cases a <;> rfl
  | _ => rfl
theorem step_bin {op : BinOp} {x y : XArg} : step T H (.bin op x y) = vval H (abin op (ev T x) (ev T y)) := by simp only [step]; cases abin op (ev T x) (ev T y) <;> rfl
theorem step_binB {ng : Bool} {x y : XArg} : step T H (.binB ng x y) = vbinB H ng (ev T x) (ev T y) := nofl rfl
theorem step_un {op : UnOp} {x : XArg} : step T H (.un op x) = vval H (aun op (ev T x)) := by simp only [step]; cases aun op (ev T x) <;> rfl
theorem step_toInt {k : IntKind} {x : XArg} : step T H (.toInt k x) = vtoInt H k (ev T x) := nofl rfl
theorem step_toFlt {k : FloatKind} {x : XArg} : step T H (.toFlt k x) = vtoFlt H k (ev T x) := nofl rfl
theorem step_fltOf {k : FloatKind} {x : XArg} : step T H (.fltOf k x) = vfltOf H k (ev T x) := nofl rfl
theorem step_mks {sz bytes : Nat} {z : List Value} {l c : XArg} : step T H (.mks sz bytes z l c) = vmks H sz bytes z (ev T l) (ev T c) := nofl rfl
theorem step_fad {off : Nat} {x : XArg} : step T H (.fad off x) = vfad H off (ev T x) := nofl rfl
theorem step_fdv1 {off : Nat} {x : XArg} : step T H (.fdv1 off x) = vfdv1 H off (ev T x) := by
  simp only [step]
  cases ev T x with
  | agg cs => cases h : cs[off]? <;> simp [vfdv1, lkC, h]
  | _ => rfl
theorem step_fdvN {off n : Nat} {x : XArg} : step T H (.fdvN off n x) = vfdvN H off n (ev T x) := nofl rfl
theorem step_idx {sz : Nat} {x i : XArg} : step T H (.idx sz x i) = vidx H sz (ev T x) (ev T i) := nofl rfl
theorem step_aidx {len sz : Nat} {x i : XArg} : step T H (.aidx len sz x i) = vaidx H len sz (ev T x) (ev T i) := nofl rfl
theorem step_ext {i : Nat} {x : XArg} : step T H (.ext i x) = vext H i (ev T x) := by
  simp only [step]
  cases ev T x with
  | tuple cs => cases h : cs[i]? <;> simp [vext, lkC, h]
  | _ => rfl
theorem step_len {x : XArg} : step T H (.len x) = vlen H (ev T x) := nofl rfl
theorem step_lenS {x : XArg} : step T H (.lenS x) = vlenS H (ev T x) := nofl rfl
theorem step_mm {mx : Bool} {x y : XArg} : step T H (.mm mx x y) = vmm H mx (ev T x) (ev T y) := nofl rfl
theorem step_app {sz bytes : Nat} {s x : XArg} : step T H (.app sz bytes s x) = vapp H sz bytes (ev T s) (ev T x) := nofl rfl
theorem bound_eq {x : XArg} {y : Nat} : bound T x y = bnd y (ev T x) := nofl rfl
theorem bounds_eq {len cap : Nat} {lo hi mx : Option XArg} : bounds T len cap lo hi mx = bnds len cap (evO T lo) (evO T hi) (evO T mx) := by
  cases lo <;> cases hi <;> cases mx <;> simp only [bounds, bnds, evO, bound_eq]
theorem step_slc {sz : Nat} {x : XArg} {lo hi mx : Option XArg} : step T H (.slc sz x lo hi mx) = vslc H sz (evO T lo) (evO T hi) (evO T mx) (ev T x) := by
  simp only [step, bounds_eq]
  rfl
theorem Zbl {C : CallRel} {d : Option Nat} {os : List XO} {ks : List Fr} {Q : XE → Tm → Heap → Prop} {x : XArg} : GO C (⟨d, (.mov x), none⟩ :: os) ks Q T H = oK C d os ks Q T (some (ev T x, H)) := by rw [GO_op rfl, step_mov]
theorem Zbm {C : CallRel} {d : Option Nat} {os : List XO} {ks : List Fr} {Q : XE → Tm → Heap → Prop} {c a b : XArg} : GO C (⟨d, (.pick c a b), none⟩ :: os) ks Q T H = oK C d os ks Q T (vpick H (ev T a) (ev T b) (ev T c)) := by rw [GO_op rfl, step_pick]
theorem Zbn {C : CallRel} {d : Option Nat} {os : List XO} {ks : List Fr} {Q : XE → Tm → Heap → Prop} {zs : List Value} : GO C (⟨d, (.new zs), none⟩ :: os) ks Q T H = oK C d os ks Q T (some (ptr H.nxt 0, H.push zs)) := by rw [GO_op rfl, step_new]
theorem Zbo {C : CallRel} {d : Option Nat} {os : List XO} {ks : List Fr} {Q : XE → Tm → Heap → Prop} {x : XArg} : GO C (⟨d, (.box x), none⟩ :: os) ks Q T H = oK C d os ks Q T (vbox H (ev T x)) := by rw [GO_op rfl, step_box]
theorem Zbp {C : CallRel} {d : Option Nat} {os : List XO} {ks : List Fr} {Q : XE → Tm → Heap → Prop} {zs : List Value} {ps : List (Nat × Nat × XArg)} : GO C (⟨d, (.agg zs ps), none⟩ :: os) ks Q T H = oK C d os ks Q T (vagg H (Zeq zs (ps.map fun p => (p.1, p.2.1, ev T p.2.2)))) := by rw [GO_op rfl, step_agg]
theorem Zbq {C : CallRel} {d : Option Nat} {os : List XO} {ks : List Fr} {Q : XE → Tm → Heap → Prop} {sz len : Nat} {zs : List Value} {ps : List (Nat × Nat × XArg)} : GO C (⟨d, (.bsl sz len zs ps), none⟩ :: os) ks Q T H = oK C d os ks Q T (vbsl H sz len (Zeq zs (ps.map fun p => (p.1, p.2.1, ev T p.2.2)))) := by rw [GO_op rfl, step_bsl]
theorem Zbr {C : CallRel} {d : Option Nat} {os : List XO} {ks : List Fr} {Q : XE → Tm → Heap → Prop} {p : XArg} : GO C (⟨d, (.load1 p), none⟩ :: os) ks Q T H = oK C d os ks Q T (vld1 H (ev T p)) := by rw [GO_op rfl, step_load1]
theorem Zbs {C : CallRel} {d : Option Nat} {os : List XO} {ks : List Fr} {Q : XE → Tm → Heap → Prop} {n : Nat} {p : XArg} : GO C (⟨d, (.loadN n p), none⟩ :: os) ks Q T H = oK C d os ks Q T (vldN H n (ev T p)) := by rw [GO_op rfl, step_loadN]
theorem Zbt {C : CallRel} {d : Option Nat} {os : List XO} {ks : List Fr} {Q : XE → Tm → Heap → Prop} {n : Nat} {p x : XArg} : GO C (⟨d, (.store n p x), none⟩ :: os) ks Q T H = oK C d os ks Q T (vst H n (ev T x) (ev T p)) := by rw [GO_op rfl, step_store]
theorem Zbu {C : CallRel} {d : Option Nat} {os : List XO} {ks : List Fr} {Q : XE → Tm → Heap → Prop} {x : XArg} : GO C (⟨d, (.nilc x), none⟩ :: os) ks Q T H = oK C d os ks Q T (vnil H (ev T x)) := by rw [GO_op rfl, step_nilc]
theorem Zbv {C : CallRel} {d : Option Nat} {os : List XO} {ks : List Fr} {Q : XE → Tm → Heap → Prop} {op : BinOp} {x y : XArg} : GO C (⟨d, (.bin op x y), none⟩ :: os) ks Q T H = oK C d os ks Q T (vval H (abin op (ev T x) (ev T y))) := by rw [GO_op rfl, step_bin]
theorem Zbw {C : CallRel} {d : Option Nat} {os : List XO} {ks : List Fr} {Q : XE → Tm → Heap → Prop} {ng : Bool} {x y : XArg} : GO C (⟨d, (.binB ng x y), none⟩ :: os) ks Q T H = oK C d os ks Q T (vbinB H ng (ev T x) (ev T y)) := by rw [GO_op rfl, step_binB]
theorem Zbx {C : CallRel} {d : Option Nat} {os : List XO} {ks : List Fr} {Q : XE → Tm → Heap → Prop} {op : UnOp} {x : XArg} : GO C (⟨d, (.un op x), none⟩ :: os) ks Q T H = oK C d os ks Q T (vval H (aun op (ev T x))) := by rw [GO_op rfl, step_un]
theorem Zby {C : CallRel} {d : Option Nat} {os : List XO} {ks : List Fr} {Q : XE → Tm → Heap → Prop} {k : IntKind} {x : XArg} : GO C (⟨d, (.toInt k x), none⟩ :: os) ks Q T H = oK C d os ks Q T (vtoInt H k (ev T x)) := by rw [GO_op rfl, step_toInt]
theorem Zbz {C : CallRel} {d : Option Nat} {os : List XO} {ks : List Fr} {Q : XE → Tm → Heap → Prop} {k : FloatKind} {x : XArg} : GO C (⟨d, (.toFlt k x), none⟩ :: os) ks Q T H = oK C d os ks Q T (vtoFlt H k (ev T x)) := by rw [GO_op rfl, step_toFlt]
theorem Zca {C : CallRel} {d : Option Nat} {os : List XO} {ks : List Fr} {Q : XE → Tm → Heap → Prop} {k : FloatKind} {x : XArg} : GO C (⟨d, (.fltOf k x), none⟩ :: os) ks Q T H = oK C d os ks Q T (vfltOf H k (ev T x)) := by rw [GO_op rfl, step_fltOf]
theorem Zcb {C : CallRel} {d : Option Nat} {os : List XO} {ks : List Fr} {Q : XE → Tm → Heap → Prop} {sz bytes : Nat} {z : List Value} {l c : XArg} : GO C (⟨d, (.mks sz bytes z l c), none⟩ :: os) ks Q T H = oK C d os ks Q T (vmks H sz bytes z (ev T l) (ev T c)) := by rw [GO_op rfl, step_mks]
theorem Zcc {C : CallRel} {d : Option Nat} {os : List XO} {ks : List Fr} {Q : XE → Tm → Heap → Prop} {off : Nat} {x : XArg} : GO C (⟨d, (.fad off x), none⟩ :: os) ks Q T H = oK C d os ks Q T (vfad H off (ev T x)) := by rw [GO_op rfl, step_fad]
theorem Zcd {C : CallRel} {d : Option Nat} {os : List XO} {ks : List Fr} {Q : XE → Tm → Heap → Prop} {off : Nat} {x : XArg} : GO C (⟨d, (.fdv1 off x), none⟩ :: os) ks Q T H = oK C d os ks Q T (vfdv1 H off (ev T x)) := by rw [GO_op rfl, step_fdv1]
theorem Zce {C : CallRel} {d : Option Nat} {os : List XO} {ks : List Fr} {Q : XE → Tm → Heap → Prop} {off n : Nat} {x : XArg} : GO C (⟨d, (.fdvN off n x), none⟩ :: os) ks Q T H = oK C d os ks Q T (vfdvN H off n (ev T x)) := by rw [GO_op rfl, step_fdvN]
theorem Zcf {C : CallRel} {d : Option Nat} {os : List XO} {ks : List Fr} {Q : XE → Tm → Heap → Prop} {sz : Nat} {x i : XArg} : GO C (⟨d, (.idx sz x i), none⟩ :: os) ks Q T H = oK C d os ks Q T (vidx H sz (ev T x) (ev T i)) := by rw [GO_op rfl, step_idx]
theorem GO_aidx {C : CallRel} {d : Option Nat} {os : List XO} {ks : List Fr} {Q : XE → Tm → Heap → Prop} {len sz : Nat} {x i : XArg} : GO C (⟨d, (.aidx len sz x i), none⟩ :: os) ks Q T H = oK C d os ks Q T (vaidx H len sz (ev T x) (ev T i)) := by rw [GO_op rfl, step_aidx]
theorem Zcg {C : CallRel} {d : Option Nat} {os : List XO} {ks : List Fr} {Q : XE → Tm → Heap → Prop} {i : Nat} {x : XArg} : GO C (⟨d, (.ext i x), none⟩ :: os) ks Q T H = oK C d os ks Q T (vext H i (ev T x)) := by rw [GO_op rfl, step_ext]
theorem Zch {C : CallRel} {d : Option Nat} {os : List XO} {ks : List Fr} {Q : XE → Tm → Heap → Prop} {x : XArg} : GO C (⟨d, (.len x), none⟩ :: os) ks Q T H = oK C d os ks Q T (vlen H (ev T x)) := by rw [GO_op rfl, step_len]
theorem Zci {C : CallRel} {d : Option Nat} {os : List XO} {ks : List Fr} {Q : XE → Tm → Heap → Prop} {x : XArg} : GO C (⟨d, (.lenS x), none⟩ :: os) ks Q T H = oK C d os ks Q T (vlenS H (ev T x)) := by rw [GO_op rfl, step_lenS]
theorem Zcj {C : CallRel} {d : Option Nat} {os : List XO} {ks : List Fr} {Q : XE → Tm → Heap → Prop} {mx : Bool} {x y : XArg} : GO C (⟨d, (.mm mx x y), none⟩ :: os) ks Q T H = oK C d os ks Q T (vmm H mx (ev T x) (ev T y)) := by rw [GO_op rfl, step_mm]
theorem Zck {C : CallRel} {d : Option Nat} {os : List XO} {ks : List Fr} {Q : XE → Tm → Heap → Prop} {sz : Nat} {x : XArg} {lo hi mx : Option XArg} : GO C (⟨d, (.slc sz x lo hi mx), none⟩ :: os) ks Q T H = oK C d os ks Q T (vslc H sz (evO T lo) (evO T hi) (evO T mx) (ev T x)) := by rw [GO_op rfl, step_slc]
def vb2s (H : Heap) (v : Value) : Option (Value × Heap) := (byts H v).map fun s => (.string s, H)
theorem step_b2s {x : XArg} : step T H (.b2s x) = vb2s H (ev T x) := nofl rfl
theorem GO_b2s {C : CallRel} {d : Option Nat} {os : List XO} {ks : List Fr} {Q : XE → Tm → Heap → Prop} {x : XArg} : GO C (⟨d, (.b2s x), none⟩ :: os) ks Q T H = oK C d os ks Q T (vb2s H (ev T x)) := by rw [GO_op rfl, step_b2s]
def vcmp (H : Heap) (neg : Bool) (offs : List (Nat × Nat)) : Value → Value → Option (Value × Heap)
  | .agg xs, .agg ys => (ceqs xs ys offs).map fun b => (.bool (b != neg), H)
  | _, _ => none
theorem step_cmp {neg : Bool} {offs : List (Nat × Nat)} {x y : XArg} : step T H (.cmp neg offs x y) = vcmp H neg offs (ev T x) (ev T y) := by
  simp only [step]; cases ev T x <;> cases ev T y <;> rfl
theorem GO_cmp {C : CallRel} {d : Option Nat} {os : List XO} {ks : List Fr} {Q : XE → Tm → Heap → Prop} {neg : Bool} {offs : List (Nat × Nat)} {x y : XArg} : GO C (⟨d, (.cmp neg offs x y), none⟩ :: os) ks Q T H = oK C d os ks Q T (vcmp H neg offs (ev T x) (ev T y)) := by rw [GO_op rfl, step_cmp]
def vclo (H : Heap) (f : FuncId) (vs : List Value) : Option (Value × Heap) := if (vs.all fun v => oneCell v && noTup v) = true then some (.func (.func f) #[] vs.toArray, H) else none
theorem step_clo {f : FuncId} {xs : List XArg} : step T H (.clo f xs) = vclo H f (xs.map (ev T)) := by
  simp only [step, vclo, List.all_map]
  rfl
theorem GO_clo {C : CallRel} {d : Option Nat} {os : List XO} {ks : List Fr} {Q : XE → Tm → Heap → Prop} {f : FuncId} {xs : List XArg} : GO C (⟨d, (.clo f xs), none⟩ :: os) ks Q T H = oK C d os ks Q T (vclo H f (xs.map (ev T))) := by rw [GO_op rfl, step_clo]
theorem vclo_ptr {f : FuncId} {p o : Nat} : vclo H f [ptr p o] = some (.func (.func f) #[] #[ptr p o], H) := nofl rfl
theorem Zff {C : CallRel} {d : Option Nat} {os : List XO} {ks : List Fr} {Q : XE → Tm → Heap → Prop} {sz bytes : Nat} {s x : XArg} : GO C (⟨d, .app sz bytes s x, none⟩ :: os) ks Q T H = oK C d os ks Q T (vapp H sz bytes (ev T s) (ev T x)) := by rw [GO_op rfl, step_app]
/-! ### On known values -/
theorem Zcl {i o : Nat} : vld1 H (ptr i o) = lkO H o (H.get i) := nofl rfl
theorem Zcm {o : Nat} {cs : List Value} : lkO H o (some (.own cs)) = lkC H cs[o]? := nofl rfl
theorem Zcn {v : Value} : lkC H (some v) = some (v, H) := nofl rfl
theorem Zco {n i o : Nat} : vldN H n (ptr i o) = ldN H o n (H.get i) := nofl rfl
theorem Zcp {n o : Nat} {cs : List Value} : ldN H o n (some (.own cs)) = if o + n ≤ cs.length then some (.agg ((cs.drop o).take n).toArray, H) else none := nofl rfl
theorem Zcq {n i o : Nat} {x : Value} : vst H n x (ptr i o) = stO H n i o x (H.get i) := nofl rfl
theorem stO_own {n i o : Nat} {x : Value} {cs : List Value} : stO H n i o x (some (.own cs)) = if noTup x = true ∧ (vcells x).length = n ∧ o + n ≤ cs.length then some (undef, H.set i (wr cs o (vcells x))) else none := nofl rfl
theorem Zcr {n i o : Nat} {x c : Value} {cs : List Value} : stO H n i o x (some (.own (c :: cs))) = if noTup x = true ∧ (vcells x).length = n ∧ o + n ≤ (c :: cs).length then some (undef, H.set i (wr (c :: cs) o (vcells x))) else none := stO_own
theorem Zcs {off i o : Nat} : vfad H off (ptr i o) = some (ptr i (o + off), H) := nofl rfl
theorem Zct {i o : Nat} : vnil H (ptr i o) = some (ptr i o, H) := nofl rfl
theorem Zcu {v : Value} : vval H (some v) = some (v, H) := nofl rfl
theorem Zcv {cs : List Value} : vagg H (some cs) = some (.agg cs.toArray, H) := nofl rfl
theorem Zcw {sz len : Nat} {cs : List Value} : vbsl H sz len (some cs) = some (.slice (some ⟨H.nxt, 0, none⟩) len sz, H.push cs) := nofl rfl
theorem Zcx {a b : Value} {t : Bool} : vpick H a b (.bool t) = some (if t = true then a else b, H) := nofl rfl
theorem Zcy {off : Nat} {cs : Array Value} : vfdv1 H off (.agg cs) = lkC H cs[off]? := nofl rfl
theorem Zcz {off n : Nat} {cs : Array Value} : vfdvN H off n (.agg cs) = some (.agg ((cs.toList.drop off).take n).toArray, H) := nofl rfl
theorem Zda {i : Nat} {vs : Array Value} : vext H i (.tuple vs) = lkC H vs[i]? := nofl rfl
theorem Zdb {k k' : IntKind} {n : Int} : vtoInt H k (.int k' n) = some (.int k (k.wrap n), H) := nofl rfl
theorem Zdc {k : FloatKind} {k' : IntKind} {n : Int} : vtoFlt H k (.int k' n) = some (.float k (k.nearest n), H) := nofl rfl
theorem Zdd {k : FloatKind} {b : Nat} : vfltOf H k (.float k b) = some (.float k b, H) := by simp [vfltOf]
/-- Arithmetic of floats: what an operation gives; of a NaN, one of them. -/
def fadd (k : FloatKind) (a b : Nat) : Nat := (k.format.add a b).getD (nanOf k)
def fsub (k : FloatKind) (a b : Nat) : Nat := (k.format.sub a b).getD (nanOf k)
def fmul (k : FloatKind) (a b : Nat) : Nat := (k.format.mul a b).getD (nanOf k)
def fdiv (k : FloatKind) (a b : Nat) : Nat := (k.format.div a b).getD (nanOf k)
def feq (k : FloatKind) (a b : Nat) : Bool := k.format.order a b == some .eq
def flt (k : FloatKind) (a b : Nat) : Bool := k.format.order a b == some .lt
def fgt (k : FloatKind) (a b : Nat) : Bool := k.format.order a b == some .gt
theorem Zdi {k : FloatKind} {a b : Nat} : abin .add (.float k a) (.float k b) = some (.float k (fadd k a b)) := by simp [abin, fltOp, fadd]
theorem Zdj {k : FloatKind} {a b : Nat} : abin .sub (.float k a) (.float k b) = some (.float k (fsub k a b)) := by simp [abin, fltOp, fsub]
theorem Zdk {k : FloatKind} {a b : Nat} : abin .mul (.float k a) (.float k b) = some (.float k (fmul k a b)) := by simp [abin, fltOp, fmul]
theorem Zdl {k : FloatKind} {a b : Nat} : abin .quo (.float k a) (.float k b) = some (.float k (fdiv k a b)) := by simp [abin, fltOp, fdiv]
theorem Zdm {k : FloatKind} {a b : Nat} : abin .eql (.float k a) (.float k b) = some (.bool (feq k a b)) := by simp [abin, fltOp, feq]
theorem Zdn {k : FloatKind} {a b : Nat} : abin .neq (.float k a) (.float k b) = some (.bool (!feq k a b)) := by simp [abin, fltOp, feq, bne]
theorem Zdo {k : FloatKind} {a b : Nat} : abin .lss (.float k a) (.float k b) = some (.bool (flt k a b)) := by simp [abin, fltOp, flt]
theorem Zdp {k : FloatKind} {a b : Nat} : abin .leq (.float k a) (.float k b) = some (.bool (flt k a b || feq k a b)) := by simp [abin, fltOp, flt, feq]
theorem Zdq {k : FloatKind} {a b : Nat} : abin .gtr (.float k a) (.float k b) = some (.bool (fgt k a b)) := by simp [abin, fltOp, fgt]
theorem Zdr {k : FloatKind} {a b : Nat} : abin .geq (.float k a) (.float k b) = some (.bool (fgt k a b || feq k a b)) := by simp [abin, fltOp, fgt, feq]
theorem Zde {i o n sz : Nat} : vlen H (.slice (some ⟨i, o, none⟩) n sz) = some (.int .i64 n, H) := by cases n <;> cases sz <;> rfl
theorem Zdf : vlen H (.slice none 0 0) = some (.int .i64 0, H) := nofl rfl
theorem Zdg {b : Bool} : aun .not (.bool b) = some (.bool (!b)) := nofl rfl
theorem Zdh {k : IntKind} {a b : Int} : abin .add (.int k a) (.int k b) = some (.int k (k.wrap (a + b))) := by simp [abin, intOp]
theorem Zds {k : IntKind} {a b : Int} : abin .sub (.int k a) (.int k b) = some (.int k (k.wrap (a - b))) := by simp [abin, intOp]
theorem Zdt {k : IntKind} {a b : Int} : abin .mul (.int k a) (.int k b) = some (.int k (k.wrap (a * b))) := by simp [abin, intOp]
theorem abin_quo {k : IntKind} {a b : Int} (h : b ≠ 0) : abin .quo (.int k a) (.int k b) = some (.int k (k.wrap (a.tdiv b))) := by simp [abin, intOp, h]
theorem abin_rem {k : IntKind} {a b : Int} (h : b ≠ 0) : abin .rem (.int k a) (.int k b) = some (.int k (a.tmod b)) := by simp [abin, intOp, h]
theorem Zdu {k : IntKind} {a b : Int} : abin .eql (.int k a) (.int k b) = some (.bool (decide (a = b))) := by simp [abin, intOp]
theorem Zdv {k : IntKind} {a b : Int} : abin .neq (.int k a) (.int k b) = some (.bool (!decide (a = b))) := by simp [abin, intOp]
theorem Zdw {k : IntKind} {a b : Int} : abin .lss (.int k a) (.int k b) = some (.bool (decide (a < b))) := by simp [abin, intOp]
theorem Zdx {k : IntKind} {a b : Int} : abin .leq (.int k a) (.int k b) = some (.bool (decide (a ≤ b))) := by simp [abin, intOp]
theorem Zdy {k : IntKind} {a b : Int} : abin .gtr (.int k a) (.int k b) = some (.bool (decide (b < a))) := by simp [abin, intOp]
theorem Zdz {k : IntKind} {a b : Int} : abin .geq (.int k a) (.int k b) = some (.bool (decide (b ≤ a))) := by simp [abin, intOp]
/-! ### A function's end -/
def fK (R : Value → Heap → Prop) (H : Heap) : Option (List Value) → Prop
  | some vs => R (one_ vs) H
  | none => False
def rK : Option Value → Option (List Value) → Option (List Value)
  | some v, some vs => some (v :: vs)
  | _, _ => none
def fst_ : Option (Value × Heap) → Option Value
  | some p => some p.1
  | none => none
theorem Zet {R : Value → Heap → Prop} {vs : List Value} : fK R H (some vs) = R (one_ vs) H := nofl rfl
theorem Zeu {v : Value} {vs : List Value} : rK (some v) (some vs) = some (v :: vs) := nofl rfl
theorem Zev {v : Value} {H' : Heap} : fst_ (some (v, H')) = some v := nofl rfl
theorem Zew : resAll T H [] = some [] := nofl rfl
theorem Zex {r : XRes} {rs : List XRes} : resAll T H (r :: rs) = rK (res1 T H r) (resAll T H rs) := by
  simp only [resAll]
  cases res1 T H r <;> cases resAll T H rs <;> rfl
theorem Zey {t : Nat} : res1 T H (.tmp t) = if noTup (T t) = true then some (T t) else none := nofl rfl
theorem Zez {t : Nat} : res1 T H (.cell1 t) = fst_ (vld1 H (T t)) := by
  simp only [res1, step_load1, Zbe]
  cases vld1 H (T t) <;> rfl
theorem Zfa {t n : Nat} : res1 T H (.cellN t n) = fst_ (vldN H n (T t)) := by
  simp only [res1, step_loadN, Zbe]
  cases vldN H n (T t) <;> rfl
theorem Zfc {v : Value} : one_ [v] = v := nofl rfl
theorem Zfb : one_ [] = .tuple #[] := nofl rfl
theorem Zfd {a b : Value} : one_ [a, b] = .tuple #[a, b] := nofl rfl
theorem Zfe {a b c : Value} : one_ [a, b, c] = .tuple #[a, b, c] := nofl rfl
theorem Zer {rs : List XRes} {R : Value → Heap → Prop} : Fin rs R .rt T H = fK R H (resAll T H rs) := by
  simp only [Fin, true_and]
  cases resAll T H rs with
  | none => simp [fK]
  | some vs => simp [fK]
theorem Zes {rs : List XRes} {R : Value → Heap → Prop} : Fin rs R .nrm T H = fK R H (resAll T H rs) := by
  simp only [Fin, true_and]
  cases resAll T H rs with
  | none => simp [fK]
  | some vs => simp [fK]
theorem Zea {k : IntKind} {n : Int} : noTup (.int k n) = true := nofl rfl
theorem Zeh {k : IntKind} {n : Int} : vcells (.int k n) = [.int k n] := nofl rfl
theorem Zeb {b : Bool} : noTup (.bool b) = true := nofl rfl
theorem Zei {b : Bool} : vcells (.bool b) = [.bool b] := nofl rfl
theorem Zec {k : FloatKind} {b : Nat} : noTup (.float k b) = true := nofl rfl
theorem Zej {k : FloatKind} {b : Nat} : vcells (.float k b) = [.float k b] := nofl rfl
theorem Zed {s : ByteArray} : noTup (.string s) = true := nofl rfl
theorem Zek {s : ByteArray} : vcells (.string s) = [.string s] := nofl rfl
theorem Zee {a : Option Addr} {l c : Nat} : noTup (.slice a l c) = true := nofl rfl
theorem Zel {a : Option Addr} {l c : Nat} : vcells (.slice a l c) = [.slice a l c] := nofl rfl
theorem Zef {a : Option Addr} : noTup (.pointer a) = true := nofl rfl
theorem Zem {a : Option Addr} : vcells (.pointer a) = [.pointer a] := nofl rfl
theorem Zeg {xs : Array Value} : noTup (.agg xs) = true := nofl rfl
theorem Zen {xs : Array Value} : vcells (.agg xs) = xs.toList := nofl rfl
theorem Zeo {i o : Nat} : noTup (ptr i o) = true := nofl rfl
theorem Zep {i o : Nat} : vcells (ptr i o) = [ptr i o] := nofl rfl
theorem Zfg {a b : Nat} (h : a ≠ b) : (a = b) = False := eq_false h
theorem wrap64 {n : Int} (h1 : -9223372036854775808 ≤ n) (h2 : n ≤ 9223372036854775807) : IntKind.i64.wrap n = n := by
  have e1 : (2 : Int) ^ IntKind.i64.bits = 18446744073709551616 := by decide
  have e2 : (2 : Int) ^ (IntKind.i64.bits - 1) = 9223372036854775808 := by decide
  unfold IntKind.wrap
  simp only [e1, e2, IntKind.signed, Bool.true_and, decide_eq_true_eq]
  split <;> omega
end
end Go.Proofs.Ytjjglonmaajjoaa.AX
namespace Go.Proofs.Ytjjglonmaajjoaa.AX
open Go

section
variable {P : Program} {H : Heap} {n : Nat} {t : TypeId} {xs : List Value}
def isStruct (P : Program) (t : TypeId) : Bool := match P.underlying t with | some (.struct _) => true | _ => false
theorem good_args_nil {l : List Value} (h : GoodArgs P H [] l) : l = [] := by
  cases l with
  | nil => rfl
  | cons a l => exact h.elim
theorem good_args_cons {ts : List TypeId} {l : List Value} (h : GoodArgs P H (t :: ts) l) : ∃ a l', l = a :: l' ∧ GoodV P H t a ∧ GoodArgs P H ts l' := by
  cases l with
  | nil => exact h.elim
  | cons a l => exact ⟨a, l, rfl, h.1, h.2⟩
theorem goodV_one {a : Value} (hs : isStruct P t = false) (h : GoodV P H t a) : ∃ n, Good P H n t [a] := by
  obtain ⟨n, h⟩ := h
  unfold isStruct at hs
  split at hs
  · cases hs
  · rename_i hu
    refine ⟨n, ?_⟩
    split at h
    · rename_i fs hu'
      exact absurd hu' (hu fs)
    · exact h
theorem good_int {k : IntKind} (hu : P.underlying t = some (.int k)) (h : Good P H n t xs) : ∃ z, xs = [.int k z] ∧ (Lit.int k z).wf = true := by
  cases n with
  | zero => exact h.elim
  | succ n => unfold Good at h; rw [hu] at h; exact h
theorem good_slc {e : TypeId} {c : Nat} (hu : P.underlying t = some (.slice e)) (hc : P.cellsOf e = c) (h : Good P H n t xs) : ∃ (v : Value) (rows : List (List Value)) (m : Nat), xs = [v] ∧ Sl H v c rows.length rows.flatten ∧ rows.length ≤ maxLen ∧ ∀ r ∈ rows, r.length = c ∧ Good P H m e r := by
  cases n with
  | zero => exact h.elim
  | succ n =>
    unfold Good at h
    rw [hu] at h
    obtain ⟨v, rows, h1, h2, h3, h4⟩ := h
    rw [hc] at h2
    exact ⟨v, rows, n, h1, h2, h3, fun r hr => by rw [← hc]; exact h4 r hr⟩
theorem wf8 {z : Int} (h : (Lit.int .u8 z).wf = true) : 0 ≤ z ∧ z ≤ 255 := by
  simp only [Lit.wf, IntKind.min, IntKind.max, Bool.and_eq_true] at h
  exact ⟨of_decide_eq_true h.1, of_decide_eq_true h.2⟩
/-- A slice of plain numbers. -/
def IntsK (k : IntKind) (H : Heap) (v : Value) (xs : List Int) : Prop := Sl H v 1 xs.length (xs.map (Value.int k))
abbrev Ints := IntsK .i64
theorem IntsK.keep {k : IntKind} {H H' : Heap} {v : Value} {xs : List Int} (h : IntsK k H v xs) (kp : Keep H H') : IntsK k H' v xs := Sl.keep h kp
theorem good_ints {e : TypeId} {k : IntKind} (hu : P.underlying t = some (.slice e)) (he : P.underlying e = some (.int k)) (hc : P.cellsOf e = 1) (h : Good P H n t xs) : ∃ v l, xs = [v] ∧ IntsK k H v l ∧ l.length ≤ maxLen ∧ ∀ z ∈ l, (Lit.int k z).wf = true := by
  obtain ⟨v, rows, m, h1, h2, h3, h4⟩ := good_slc hu hc h
  have : ∀ rows : List (List Value), (∀ r ∈ rows, r.length = 1 ∧ Good P H m e r) → ∃ l : List Int, rows.flatten = l.map (Value.int k) ∧ l.length = rows.length ∧ ∀ z ∈ l, (Lit.int k z).wf = true := by
    intro rows
    induction rows with
    | nil => intro _; exact ⟨[], rfl, rfl, fun z hz => by cases hz⟩
    | cons r rows ih =>
      intro h
      obtain ⟨l, h5, h6, h7⟩ := ih (fun r hr => h r (by simp [hr]))
      obtain ⟨z, rfl, hz⟩ := good_int he (h r (by simp)).2
      refine ⟨z :: l, by simp [h5], by simp [h6], fun y hy => ?_⟩
      rcases List.mem_cons.1 hy with rfl | hy
      · exact hz
      · exact h7 y hy
  obtain ⟨l, h5, h6, h7⟩ := this rows h4
  exact ⟨v, l, h1, by unfold IntsK; rw [h6, ← h5]; exact h2, by rw [h6]; exact h3, h7⟩
end
end Go.Proofs.Ytjjglonmaajjoaa.AX
namespace Go.Proofs.Ytjjglonmaajjoaa.AX
open Go

theorem Zfh {a b : Int} (h : a < b) : decide (a < b) = true := decide_eq_true h
theorem Zfi {a b : Int} (h : ¬ a < b) : decide (a < b) = false := decide_eq_false h
theorem Zfj {a b : Int} (h : a ≤ b) : decide (a ≤ b) = true := decide_eq_true h
theorem Zfk {a b : Int} (h : ¬ a ≤ b) : decide (a ≤ b) = false := decide_eq_false h
theorem Zfl {a b : Int} (h : a = b) : decide (a = b) = true := decide_eq_true h
theorem Zfm {a b : Int} (h : ¬ a = b) : decide (a = b) = false := decide_eq_false h
theorem Zfn {i : Nat} (h : i < 4611686018427387904) : IntKind.i64.wrap ((i : Int) + 1) = ((i + 1 : Nat) : Int) := by rw [wrap64 (by omega) (by omega)]; omega
/-- Where cell o of element i of a slice lies. -/
def adr (v : Value) (i sz o : Nat) : Value := match v with
  | .slice (some ⟨b, o', none⟩) _ _ => ptr b (o' + i * sz + o)
  | _ => undef
section
variable {H H1 : Heap} {v : Value} {sz n : Nat} {cs : List Value} {i o : Nat} {k : IntKind}
theorem Sl.len_ (h : Sl H v sz n cs) : vlen H1 v = some (.int .i64 n, H1) := by
  rcases h.2 with ⟨rfl, rfl⟩ | ⟨i, o, rfl, _⟩
  · rfl
  · exact Zde
theorem Sl.noTup_ (h : Sl H v sz n cs) : noTup v = true := by
  rcases h.2 with ⟨rfl, rfl⟩ | ⟨i, o, rfl, _⟩ <;> rfl
theorem Sl.cells_ (h : Sl H v sz n cs) : vcells v = [v] := by
  rcases h.2 with ⟨rfl, rfl⟩ | ⟨i, o, rfl, _⟩ <;> rfl
theorem Sl.some_ (h : Sl H v sz n cs) (hi : i < n) : ∃ b o, v = .slice (some ⟨b, o, none⟩) n sz ∧ b < H.nxt ∧ ∀ j c, cs[j]? = some c → ∃ ob, H.get b = some ob ∧ ob.cells[o + j]? = some c := by
  rcases h.2 with ⟨_, rfl⟩ | h
  · omega
  · exact h
theorem Zfo {p : Nat} (h : i < n) : vidx H1 sz (.slice (some ⟨p, o, none⟩) n sz) (.int k (i : Int)) = some (ptr p (o + i * sz), H1) := by
  have e : vidx H1 sz (.slice (some ⟨p, o, none⟩) n sz) (.int k (i : Int)) = if sz = sz ∧ 0 ≤ (i : Int) ∧ (i : Int) < n then some (.pointer (some ⟨p, o + (i : Int).toNat * sz, none⟩), H1) else none := rfl
  rw [e, if_pos ⟨rfl, by omega, by omega⟩]
  simp [ptr]
theorem Sl.idx (h : Sl H v sz n cs) (hi : i < n) : vidx H1 sz v (.int k (i : Int)) = some (adr v i sz 0, H1) := by
  obtain ⟨b, o, rfl, _⟩ := h.some_ hi
  rw [Zfo hi]
  rfl
theorem Sl.fad {off : Nat} (h : Sl H v sz n cs) (hi : i < n) : vfad H1 off (adr v i sz o) = some (adr v i sz (o + off), H1) := by
  obtain ⟨b, o', rfl, _⟩ := h.some_ hi
  simp only [adr, Zcs, Nat.add_assoc]
theorem Sl.ld {c : Value} (h : Sl H v sz n cs) (hi : i < n) (hc : cs[i * sz + o]? = some c) : vld1 H (adr v i sz o) = some (c, H) := by
  obtain ⟨b, o', rfl, _, h2⟩ := h.some_ hi
  obtain ⟨ob, h3, h4⟩ := h2 _ _ hc
  simp only [adr, Zcl, h3, lkO]
  rw [show o' + i * sz + o = o' + (i * sz + o) by omega, h4]
  rfl
theorem Sl.ldN {m : Nat} (h : Sl H v sz n cs) (hi : i < n) (hm : 0 < m) (ho : o + m ≤ sz) : vldN H m (adr v i sz o) = some (.agg ((cs.drop (i * sz + o)).take m).toArray, H) := by
  have hmul : (i + 1) * sz ≤ n * sz := Nat.mul_le_mul_right _ hi
  rw [Nat.add_mul, Nat.one_mul] at hmul
  have hl := h.1
  obtain ⟨b, o', rfl, _, h2⟩ := h.some_ hi
  have hlast : cs[i * sz + o + m - 1]? = some cs[i * sz + o + m - 1] := List.getElem?_eq_getElem (by omega)
  obtain ⟨ob, h3, h4⟩ := h2 _ _ hlast
  have hob : o' + (i * sz + o + m - 1) < ob.cells.length := (List.getElem?_eq_some_iff.1 h4).1
  simp only [adr, Zco, h3, ldN]
  rw [if_pos (by omega)]
  congr 3
  congr 1
  refine List.ext_getElem? fun j => ?_
  rw [List.getElem?_take, List.getElem?_take]
  split
  · rename_i hj
    rw [List.getElem?_drop, List.getElem?_drop]
    have hx : cs[i * sz + o + j]? = some cs[i * sz + o + j] := List.getElem?_eq_getElem (by omega)
    obtain ⟨ob', h5, h6⟩ := h2 _ _ hx
    rw [h3] at h5
    injection h5 with h5
    subst h5
    rw [hx, show o' + i * sz + o + j = o' + (i * sz + o + j) by omega, h6]
  · rfl
theorem IntsK.idx {xs : List Int} {k' : IntKind} (h : IntsK k H v xs) (hi : i < xs.length) : vidx H1 1 v (.int k' (i : Int)) = some (adr v i 1 0, H1) := Sl.idx h hi
theorem IntsK.ld {xs : List Int} (h : IntsK k H v xs) (hi : i < xs.length) : vld1 H (adr v i 1 0) = some (.int k (xs.getD i 0), H) := by
  refine Sl.ld h hi ?_
  simp [List.getD, List.getElem?_eq_getElem hi]
theorem IntsK.len_ {xs : List Int} (h : IntsK k H v xs) : vlen H1 v = some (.int .i64 xs.length, H1) := Sl.len_ h
/-- Own memory from its beginning. -/
theorem sl_own {p : Nat} (hp : p < H.nxt) (hg : H.get p = some (.own cs)) (hl : cs.length = n * sz) : Sl H (.slice (some ⟨p, 0, none⟩) n sz) sz n cs :=
  ⟨hl, .inr ⟨p, 0, rfl, hp, fun j c hj => ⟨_, hg, by simpa [Obj.cells] using hj⟩⟩⟩
/-- A new slice of numbers. -/
def NewK (k : IntKind) (H H' : Heap) (v : Value) (xs : List Int) : Prop := ∃ p, H.nxt ≤ p ∧ p < H'.nxt ∧ v = .slice (some ⟨p, 0, none⟩) xs.length 1 ∧ H'.get p = some (.own (xs.map (Value.int k)))
theorem wr_one {x : Value} (h : i < cs.length) : wr cs i [x] = cs.set i x := by
  unfold wr
  refine List.ext_getElem? fun j => ?_
  rw [List.getElem?_set]
  by_cases hj : j < i
  · rw [if_neg (by omega), List.append_assoc, List.getElem?_append_left (by simp; omega), List.getElem?_take_of_lt hj]
  · by_cases hij : i = j
    · subst hij
      rw [if_pos rfl, if_pos h, List.append_assoc, List.getElem?_append_right (by simp; omega)]
      simp [Nat.min_eq_left (Nat.le_of_lt h)]
    · rw [if_neg hij, List.getElem?_append_right (by simp; omega), List.getElem?_drop]
      simp only [List.length_append, List.length_take, List.length_cons, List.length_nil]
      congr 1
      omega
theorem stO_one {p : Nat} {x : Value} (hx : noTup x = true) (hv : vcells x = [x]) (hi : i < cs.length) : stO H1 1 p i x (some (.own cs)) = some (undef, H1.set p (cs.set i x)) := by
  rw [stO_own, hv, if_pos ⟨hx, rfl, by omega⟩, wr_one hi]
theorem Zfq {p : Nat} {z : Int} (hi : i < cs.length) : stO H1 1 p i (.int k z) (some (.own cs)) = some (undef, H1.set p (cs.set i (.int k z))) := stO_one rfl rfl hi
theorem Zfr {p : Nat} {z : Bool} (hi : i < cs.length) : stO H1 1 p i (.bool z) (some (.own cs)) = some (undef, H1.set p (cs.set i (.bool z))) := stO_one rfl rfl hi
theorem Zfs {p : Nat} {a : Option Addr} {l c : Nat} (hi : i < cs.length) : stO H1 1 p i (.slice a l c) (some (.own cs)) = some (undef, H1.set p (cs.set i (.slice a l c))) := stO_one rfl rfl hi
theorem Zfp {bytes : Nat} {z : List Value} (h : bytes * n ≤ 140737488355328) (hn : n ≤ 9223372036854775807) : vmks H1 sz bytes z (.int .i64 (n : Int)) (.int .i64 (n : Int)) = some (.slice (some ⟨H1.nxt, 0, none⟩) n sz, H1.push (List.replicate n z).flatten) := by
  have e : vmks H1 sz bytes z (.int .i64 (n : Int)) (.int .i64 (n : Int)) = if 0 ≤ (n : Int) ∧ (n : Int) ≤ n ∧ (n : Int) ≤ 9223372036854775807 ∧ (bytes : Int) * n ≤ 140737488355328 then some (.slice (some ⟨H1.nxt, 0, none⟩) (n : Int).toNat sz, H1.push ((List.replicate (n : Int).toNat z).flatten)) else none := rfl
  have h2 : (bytes : Int) * n ≤ 140737488355328 := by
    have : ((bytes * n : Nat) : Int) ≤ 140737488355328 := by omega
    simpa using this
  rw [e, if_pos ⟨by omega, by omega, by omega, h2⟩, Int.toNat_natCast]
/-- A slice's part from a to b. -/
def subV (v : Value) (a b sz : Nat) : Value := match v with
  | .slice (some ⟨p, o, none⟩) _ _ => .slice (some ⟨p, o + a * sz, none⟩) (b - a) sz
  | v => v
theorem bnd_nat {a y : Nat} (h : a ≤ y) : bnd y (.int k (a : Int)) = some a := by
  have e : bnd y (.int k (a : Int)) = if 0 ≤ (a : Int) ∧ (a : Int) ≤ y then some (a : Int).toNat else none := rfl
  rw [e, if_pos ⟨by omega, by omega⟩, Int.toNat_natCast]
theorem Sl.slc_hi {b : Nat} (h : Sl H v sz n cs) (hb : b ≤ n) : vslc H1 sz none (some (.int k (b : Int))) none v = some (subV v 0 b sz, H1) := by
  rcases h.2 with ⟨rfl, rfl⟩ | ⟨i, o, rfl, _⟩
  · obtain rfl : b = 0 := by omega
    simp only [vslc, bnds, Option.bind_some, bnd_nat (Nat.le_refl 0), Option.map_some, subV]
  · simp only [vslc, if_true, bnds, Option.bind_some, bnd_nat hb, Option.map_some, subV]
theorem Sl.sub {a b : Nat} (h : Sl H v sz n cs) (ha : a ≤ b) (hb : b ≤ n) : Sl H (subV v a b sz) sz (b - a) ((cs.drop (a * sz)).take ((b - a) * sz)) := by
  have h1 : b * sz ≤ n * sz := Nat.mul_le_mul_right _ hb
  have h2 : (b - a) * sz = b * sz - a * sz := Nat.sub_mul _ _ _
  have h3 : a * sz ≤ b * sz := Nat.mul_le_mul_right _ ha
  refine ⟨by rw [List.length_take, List.length_drop, h.1]; omega, ?_⟩
  rcases h.2 with ⟨rfl, rfl⟩ | ⟨i, o, rfl, hi, hc⟩
  · exact .inl ⟨rfl, by omega⟩
  · refine .inr ⟨i, o + a * sz, rfl, hi, fun j c hj => ?_⟩
    rw [List.getElem?_take] at hj
    split at hj
    · rw [List.getElem?_drop] at hj
      obtain ⟨ob, h4, h5⟩ := hc _ _ hj
      exact ⟨ob, h4, by rw [Nat.add_assoc]; exact h5⟩
    · cases hj
theorem IntsK.sub {xs : List Int} {a b : Nat} (h : IntsK k H v xs) (ha : a ≤ b) (hb : b ≤ xs.length) : IntsK k H (subV v a b 1) ((xs.drop a).take (b - a)) := by
  have h1 := Sl.sub h ha hb
  unfold IntsK
  rw [List.length_take, List.length_drop, Nat.min_eq_left (by omega)]
  simpa [List.map_take, List.map_drop] using h1
theorem vapp_one {p j bytes : Nat} {x : Value} (hp : H1.get p = some (.own cs)) (hj : H1.get j = some (.own [x])) (hc : cs.length = n) (hb : (n + 1) * bytes ≤ 140737488355328) :
    vapp H1 1 bytes (.slice (some ⟨p, 0, none⟩) n 1) (.slice (some ⟨j, 0, none⟩) 1 1) = some (.slice (some ⟨H1.nxt, 0, none⟩) (n + 1) 1, H1.moved p (cs ++ [x])) := by
  have e : vapp H1 1 bytes (.slice (some ⟨p, 0, none⟩) n 1) (.slice (some ⟨j, 0, none⟩) 1 1) = (match H1.get j with
      | some ob => if 1 = 1 ∧ 0 + 1 * 1 ≤ ob.cells.length then
          (match H1.get p with
            | some (.own cs) => if 1 = 1 ∧ 0 + n * 1 ≤ cs.length ∧ (n + 1) * bytes ≤ 140737488355328 then some (.slice (some ⟨H1.nxt, 0, none⟩) (n + 1) 1, H1.moved p ((cs.drop 0).take (n * 1) ++ (ob.cells.drop 0).take (1 * 1))) else none
            | _ => none)
        else none
      | none => none) := rfl
  rw [e, hj, hp]
  simp only [Obj.cells, true_and]
  rw [if_pos (by simp), if_pos ⟨by omega, hb⟩, List.drop_zero, Nat.mul_one, ← hc, List.take_length]
  rfl
theorem NewK.keep {k : IntKind} {H0 H2 : Heap} {xs : List Int} (h : NewK k H0 H1 v xs) (kp : Keep H1 H2) : NewK k H0 H2 v xs := by
  obtain ⟨p, h1, h2, h3, h4⟩ := h
  exact ⟨p, h1, Nat.lt_of_lt_of_le h2 kp.nxt, h3, by rw [kp.get p h2]; exact h4⟩
/-- One more number behind those that are there. -/
theorem NewK.one {k : IntKind} {H0 : Heap} {xs : List Int} {z : Int} {bytes : Nat} (h : NewK k H0 H1 v xs) (hb : (xs.length + 1) * bytes ≤ 140737488355328) :
    ∃ w H2, vapp (H1.push [.int k z]) 1 bytes v (.slice (some ⟨H1.nxt, 0, none⟩) 1 1) = some (w, H2) ∧ NewK k H0 H2 w (xs ++ [z]) ∧ (Keep H0 H1 → Keep H0 H2) ∧ H1.nxt ≤ H2.nxt := by
  obtain ⟨p, h1, h2, rfl, h4⟩ := h
  have hp : (H1.push [.int k z]).get p = some (.own (xs.map (Value.int k))) := by rw [push_get', if_neg (by omega), h4]
  have hj : (H1.push [.int k z]).get H1.nxt = some (.own [.int k z]) := by rw [push_get', if_pos rfl]
  refine ⟨_, _, vapp_one hp hj (by simp) hb, ⟨H1.nxt + 1, ?_, ?_, ?_, ?_⟩, fun hk => ?_, ?_⟩
  · omega
  · rw [Zbj, Zbg]; omega
  · simp [Zbg]
  · rw [Zbk, Zbg, if_pos rfl, List.map_append]; rfl
  · exact (hk.push').moved' h1
  · rw [Zbj, Zbg]; omega
end
end Go.Proofs.Ytjjglonmaajjoaa.AX
namespace Go.Proofs.Ytjjglonmaajjoaa.AX
open Go
set_option maxRecDepth 10000
theorem Zq : type_of% (And.intro @Zaa (And.intro @Zab (And.intro @Zac (And.intro @Zad (And.intro @Zae (And.intro @Zaf (And.intro @Zag (And.intro @Zah (And.intro @Zai (And.intro @Zaj (And.intro @Zak (And.intro @Zal (And.intro @Zam (And.intro @Zan (And.intro @Zao (And.intro @Zap (And.intro @Zaq (And.intro @Zar (And.intro @Zas (And.intro @Zat (And.intro @Zau (And.intro @Zav (And.intro @Zaw (And.intro @Zax (And.intro @Zay (And.intro @Zaz (And.intro @Zba (And.intro @Zbb (And.intro @Zbc (And.intro @Zbd (And.intro @Zbe (And.intro @Zbf (And.intro @T0_1 (And.intro @T0_2 (And.intro @T0_3 (And.intro @T0_4 (And.intro @T0_5 (And.intro @Zbg (And.intro @push_get' (And.intro @Zbh (And.intro @Zbi (And.intro @Zbj (And.intro @Zbk (And.intro @Zbl (And.intro @Zbm (And.intro @Zbn (And.intro @Zbo (And.intro @Zbp (And.intro @Zbq (And.intro @Zbr (And.intro @Zbs (And.intro @Zbt (And.intro @Zbu (And.intro @Zbv (And.intro @Zbw (And.intro @Zbx (And.intro @Zby (And.intro @Zbz (And.intro @Zca (And.intro @Zcb (And.intro @Zcc (And.intro @Zcd (And.intro @Zce (And.intro @Zcf (And.intro @GO_aidx (And.intro @Zcg (And.intro @Zch (And.intro @Zci (And.intro @Zcj (And.intro @Zck (And.intro @Zcl (And.intro @Zcm (And.intro @Zcn (And.intro @Zco (And.intro @Zcp (And.intro @Zcq (And.intro @Zcr (And.intro @Zcs (And.intro @Zct (And.intro @Zcu (And.intro @Zcv (And.intro @Zcw (And.intro @Zcx (And.intro @Zcy (And.intro @Zcz (And.intro @Zda (And.intro @Zdb (And.intro @Zdc (And.intro @Zdd (And.intro @Zde (And.intro @Zdf (And.intro @Zdg (And.intro @Zdh (And.intro @Zdi (And.intro @Zdj (And.intro @Zdk (And.intro @Zdl (And.intro @Zdm (And.intro @Zdn (And.intro @Zdo (And.intro @Zdp (And.intro @Zdq (And.intro @Zdr (And.intro @Zds (And.intro @Zdt (And.intro @Zdu (And.intro @Zdv (And.intro @Zdw (And.intro @Zdx (And.intro @Zdy (And.intro @Zdz (And.intro @Zea (And.intro @Zeb (And.intro @Zec (And.intro @Zed (And.intro @Zee (And.intro @Zef (And.intro @Zeg (And.intro @Zeh (And.intro @Zei (And.intro @Zej (And.intro @Zek (And.intro @Zel (And.intro @Zem (And.intro @Zen (And.intro @Zeo (And.intro @Zep (And.intro @Nat.succ_ne_self (And.intro @Nat.add_eq_left (And.intro @Nat.left_eq_add (And.intro @Nat.add_left_cancel_iff (And.intro @Nat.add_right_cancel_iff (And.intro @Nat.add_zero (And.intro @Nat.zero_add (And.intro @Nat.add_assoc (And.intro @List.getElem?_cons_zero.{0} (And.intro @List.getElem?_cons_succ.{0} (And.intro @List.getElem?_nil.{0} (And.intro @List.getElem?_toArray.{0} (And.intro @List.map_cons.{0,0} (And.intro @List.map_nil.{0,0} (And.intro @List.length_cons.{0} (And.intro @List.length_nil.{0} (And.intro @List.take_succ_cons.{0} (And.intro @List.take_zero.{0} (And.intro @List.take_nil.{0} (And.intro @List.drop_succ_cons.{0} (And.intro @List.drop_zero.{0} (And.intro @List.drop_nil.{0} (And.intro @List.nil_append.{0} (And.intro @List.cons_append.{0} (And.intro @List.append_nil.{0} (And.intro @List.append_assoc.{0} (And.intro @Nat.le_refl (And.intro @Option.map_some.{0,0} (And.intro @Bool.not_true (And.intro @Bool.not_false (And.intro @Nat.one_ne_zero (And.intro @Zer (And.intro @Zes (And.intro @Zet (And.intro @Zeu (And.intro @Zev (And.intro @Zew (And.intro @Zex (And.intro @Zey (And.intro @Zez (And.intro @Zfa (And.intro @Zfb (And.intro @Zfc (And.intro @Zfd (And.intro @Zfe (And.intro @Nat.mul_one (And.intro @Zff (And.intro @Zfg (And.intro @Zfh (And.intro @Zfi (And.intro @Zfj (And.intro @Zfk (And.intro @Zfl (And.intro @Zfm (And.intro @Zfn (And.intro @Zfo (And.intro @Zfp (And.intro @Int.natCast_zero (And.intro @Zfq (And.intro @Zfr (@Zfs)))))))))))))))))))))))))))))))))))))))))))))))))))))))))))))))))))))))))))))))))))))))))))))))))))))))))))))))))))))))))))))))))))))))))))))))))))))))))))))))))))))))))))))))))))))))))))) := And.intro @Zaa (And.intro @Zab (And.intro @Zac (And.intro @Zad (And.intro @Zae (And.intro @Zaf (And.intro @Zag (And.intro @Zah (And.intro @Zai (And.intro @Zaj (And.intro @Zak (And.intro @Zal (And.intro @Zam (And.intro @Zan (And.intro @Zao (And.intro @Zap (And.intro @Zaq (And.intro @Zar (And.intro @Zas (And.intro @Zat (And.intro @Zau (And.intro @Zav (And.intro @Zaw (And.intro @Zax (And.intro @Zay (And.intro @Zaz (And.intro @Zba (And.intro @Zbb (And.intro @Zbc (And.intro @Zbd (And.intro @Zbe (And.intro @Zbf (And.intro @T0_1 (And.intro @T0_2 (And.intro @T0_3 (And.intro @T0_4 (And.intro @T0_5 (And.intro @Zbg (And.intro @push_get' (And.intro @Zbh (And.intro @Zbi (And.intro @Zbj (And.intro @Zbk (And.intro @Zbl (And.intro @Zbm (And.intro @Zbn (And.intro @Zbo (And.intro @Zbp (And.intro @Zbq (And.intro @Zbr (And.intro @Zbs (And.intro @Zbt (And.intro @Zbu (And.intro @Zbv (And.intro @Zbw (And.intro @Zbx (And.intro @Zby (And.intro @Zbz (And.intro @Zca (And.intro @Zcb (And.intro @Zcc (And.intro @Zcd (And.intro @Zce (And.intro @Zcf (And.intro @GO_aidx (And.intro @Zcg (And.intro @Zch (And.intro @Zci (And.intro @Zcj (And.intro @Zck (And.intro @Zcl (And.intro @Zcm (And.intro @Zcn (And.intro @Zco (And.intro @Zcp (And.intro @Zcq (And.intro @Zcr (And.intro @Zcs (And.intro @Zct (And.intro @Zcu (And.intro @Zcv (And.intro @Zcw (And.intro @Zcx (And.intro @Zcy (And.intro @Zcz (And.intro @Zda (And.intro @Zdb (And.intro @Zdc (And.intro @Zdd (And.intro @Zde (And.intro @Zdf (And.intro @Zdg (And.intro @Zdh (And.intro @Zdi (And.intro @Zdj (And.intro @Zdk (And.intro @Zdl (And.intro @Zdm (And.intro @Zdn (And.intro @Zdo (And.intro @Zdp (And.intro @Zdq (And.intro @Zdr (And.intro @Zds (And.intro @Zdt (And.intro @Zdu (And.intro @Zdv (And.intro @Zdw (And.intro @Zdx (And.intro @Zdy (And.intro @Zdz (And.intro @Zea (And.intro @Zeb (And.intro @Zec (And.intro @Zed (And.intro @Zee (And.intro @Zef (And.intro @Zeg (And.intro @Zeh (And.intro @Zei (And.intro @Zej (And.intro @Zek (And.intro @Zel (And.intro @Zem (And.intro @Zen (And.intro @Zeo (And.intro @Zep (And.intro @Nat.succ_ne_self (And.intro @Nat.add_eq_left (And.intro @Nat.left_eq_add (And.intro @Nat.add_left_cancel_iff (And.intro @Nat.add_right_cancel_iff (And.intro @Nat.add_zero (And.intro @Nat.zero_add (And.intro @Nat.add_assoc (And.intro @List.getElem?_cons_zero.{0} (And.intro @List.getElem?_cons_succ.{0} (And.intro @List.getElem?_nil.{0} (And.intro @List.getElem?_toArray.{0} (And.intro @List.map_cons.{0,0} (And.intro @List.map_nil.{0,0} (And.intro @List.length_cons.{0} (And.intro @List.length_nil.{0} (And.intro @List.take_succ_cons.{0} (And.intro @List.take_zero.{0} (And.intro @List.take_nil.{0} (And.intro @List.drop_succ_cons.{0} (And.intro @List.drop_zero.{0} (And.intro @List.drop_nil.{0} (And.intro @List.nil_append.{0} (And.intro @List.cons_append.{0} (And.intro @List.append_nil.{0} (And.intro @List.append_assoc.{0} (And.intro @Nat.le_refl (And.intro @Option.map_some.{0,0} (And.intro @Bool.not_true (And.intro @Bool.not_false (And.intro @Nat.one_ne_zero (And.intro @Zer (And.intro @Zes (And.intro @Zet (And.intro @Zeu (And.intro @Zev (And.intro @Zew (And.intro @Zex (And.intro @Zey (And.intro @Zez (And.intro @Zfa (And.intro @Zfb (And.intro @Zfc (And.intro @Zfd (And.intro @Zfe (And.intro @Nat.mul_one (And.intro @Zff (And.intro @Zfg (And.intro @Zfh (And.intro @Zfi (And.intro @Zfj (And.intro @Zfk (And.intro @Zfl (And.intro @Zfm (And.intro @Zfn (And.intro @Zfo (And.intro @Zfp (And.intro @Int.natCast_zero (And.intro @Zfq (And.intro @Zfr (@Zfs)))))))))))))))))))))))))))))))))))))))))))))))))))))))))))))))))))))))))))))))))))))))))))))))))))))))))))))))))))))))))))))))))))))))))))))))))))))))))))))))))))))))))))))))))))))))))))
end Go.Proofs.Ytjjglonmaajjoaa.AX
namespace Go.Proofs.Ytjjglonmaajjoaa.AX
open Go
set_option linter.unusedVariables false

/-- Nothing but what lies in F has turned. -/
structure Chg (F : List Nat) (H H' : Heap) : Prop where
  nxt : H.nxt ≤ H'.nxt
  get : ∀ i, i < H.nxt → i ∉ F → H'.get i = H.get i
theorem Chg.refl (F : List Nat) (H : Heap) : Chg F H H := ⟨Nat.le_refl _, fun _ _ _ => rfl⟩
theorem Keep.chg {F : List Nat} {H H' : Heap} (h : Keep H H') : Chg F H H' := ⟨h.nxt, fun i hi _ => h.get i hi⟩
theorem Chg.trans {F : List Nat} {H H1 H2 : Heap} (h : Chg F H H1) (k : Chg F H1 H2) : Chg F H H2 := ⟨Nat.le_trans h.nxt k.nxt, fun i hi hF => (k.get i (Nat.lt_of_lt_of_le hi h.nxt) hF).trans (h.get i hi hF)⟩
theorem Chg.mono {F F' : List Nat} {H H' : Heap} (h : Chg F H H') (hs : ∀ i ∈ F, i ∈ F') : Chg F' H H' := ⟨h.nxt, fun i hi hF => h.get i hi (fun hm => hF (hs i hm))⟩
theorem Chg.set {F : List Nat} {H : Heap} {p : Nat} {cs : List Value} (hp : p ∈ F) : Chg F H (H.set p cs) := ⟨Nat.le_refl _, fun i _ hF => by rw [Zbi, if_neg (fun e => by subst e; exact hF hp)]⟩
theorem Chg.keep {F : List Nat} {H H1 H2 : Heap} (h : Chg F H1 H2) (k : Keep H H1) (hF : ∀ i ∈ F, H.nxt ≤ i) : Keep H H2 := ⟨Nat.le_trans k.nxt h.nxt, fun i hi => (h.get i (Nat.lt_of_lt_of_le hi k.nxt) (fun hm => by have := hF i hm; omega)).trans (k.get i hi)⟩
/-- A part of a block, between what lies ahead of it and what behind. -/
def mid (pre A post : List Value) : List Value := pre ++ A ++ post
/-- How data lies in cells. -/
structure Rep (α : Type) where
  sz : Nat
  rd : Heap → List Value → α → Prop
  own : Heap → List Value → α → List Nat → Prop
  tot : α → Nat
  fit : α → Prop
  mar : α → Nat → α × Nat
  val : List Value → Value
  valc : ∀ {H cs a}, rd H cs a → vcells (val cs) = cs ∧ noTup (val cs) = true
  len : ∀ {H cs a}, rd H cs a → cs.length = sz
  rdk : ∀ {H H' cs a}, rd H cs a → Keep H H' → rd H' cs a
  ownrd : ∀ {H cs a F}, own H cs a F → rd H cs a
  ownlt : ∀ {H cs a F}, own H cs a F → ∀ i ∈ F, i < H.nxt
  ownk : ∀ {H H' cs a F}, own H cs a F → H.nxt ≤ H'.nxt → (∀ i ∈ F, H'.get i = H.get i) → own H' cs a F
def one1 (cs : List Value) : Value := match cs with | [v] => v | _ => undef
def leafRep {α : Type} (f : α → Value) (m : Nat → α) (hf : ∀ a, oneCell (f a) = true) : Rep α where
  sz := 1
  rd := fun _ cs a => cs = [f a]
  own := fun _ cs a F => cs = [f a] ∧ F = []
  tot := fun _ => 0
  fit := fun _ => True
  mar := fun _ k => (m k, k + 1)
  val := one1
  valc := fun {H cs a} h => by
    subst h
    have := hf a
    simp only [one1]
    cases hv : f a <;> rw [hv] at this <;> first | exact ⟨rfl, rfl⟩ | cases this | exact ⟨rfl, this⟩
  len := fun h => by rw [h]; rfl
  rdk := fun h _ => h
  ownrd := fun h => h.1
  ownlt := fun h i hi => by rw [h.2] at hi; cases hi
  ownk := fun h _ _ => h
theorem oneCell_int {k : IntKind} (a : Int) : oneCell (.int k a) = true := rfl
theorem oneCell_bool (a : Bool) : oneCell (.bool a) = true := rfl
abbrev rInt : Rep Int := leafRep (.int .i64) (fun k => (k : Int)) oneCell_int
abbrev rBool : Rep Bool := leafRep .bool (fun k => decide (k % 3 = 0)) oneCell_bool
def mkL {α : Type} (m : α → Nat → α × Nat) : List α → Nat → List α × Nat
  | [], k => ([], k)
  | x :: xs, k => ((m x k).1 :: (mkL m xs (m x k).2).1, (mkL m xs (m x k).2).2)
/-- Rows, each of them own memory, each with its footprint. -/
def ownRows {α : Type} (r : Rep α) (H : Heap) : List (List Value) → List α → List (List Nat) → Prop
  | [], [], [] => True
  | c :: cs, x :: xs, F :: Fs => r.own H c x F ∧ ownRows r H cs xs Fs
  | _, _, _ => False
def rdRows {α : Type} (r : Rep α) (H : Heap) (rows : List (List Value)) (xs : List α) : Prop := All2 (fun c x => r.rd H c x) rows xs
section
variable {α β : Type} {r : Rep α} {H H' : Heap}
theorem rdRows.keep {rows : List (List Value)} {xs : List α} (h : rdRows r H rows xs) (k : Keep H H') : rdRows r H' rows xs := h.imp fun _ _ h => r.rdk h k
theorem rdRows.sz {rows : List (List Value)} {xs : List α} (h : rdRows r H rows xs) : ∀ c ∈ rows, c.length = r.sz := by
  intro c hc
  obtain ⟨i, hi⟩ := List.getElem?_of_mem hc
  obtain ⟨x, _, h1⟩ := h.get i c hi
  exact r.len h1
theorem ownRows.rd : ∀ {rows : List (List Value)} {xs : List α} {Fs : List (List Nat)}, ownRows r H rows xs Fs → rdRows r H rows xs
  | [], [], [], _ => .nil
  | [], [], _ :: _, h => h.elim
  | [], _ :: _, _, h => h.elim
  | _ :: _, [], _, h => h.elim
  | _ :: _, _ :: _, [], h => h.elim
  | c :: cs, x :: xs, F :: Fs, h => .cons (r.ownrd h.1) (ownRows.rd h.2)
theorem ownRows.lt : ∀ {rows : List (List Value)} {xs : List α} {Fs : List (List Nat)}, ownRows r H rows xs Fs → ∀ i ∈ Fs.flatten, i < H.nxt
  | [], [], [], _, i, hi => by cases hi
  | [], [], _ :: _, h, _, _ => h.elim
  | [], _ :: _, _, h, _, _ => h.elim
  | _ :: _, [], _, h, _, _ => h.elim
  | _ :: _, _ :: _, [], h, _, _ => h.elim
  | c :: cs, x :: xs, F :: Fs, h, i, hi => by
    rw [List.flatten_cons] at hi
    rcases List.mem_append.1 hi with hi | hi
    · exact r.ownlt h.1 i hi
    · exact ownRows.lt h.2 i hi
theorem ownRows.keep : ∀ {rows : List (List Value)} {xs : List α} {Fs : List (List Nat)}, ownRows r H rows xs Fs → H.nxt ≤ H'.nxt → (∀ i ∈ Fs.flatten, H'.get i = H.get i) → ownRows r H' rows xs Fs
  | [], [], [], _, _, _ => trivial
  | [], [], _ :: _, h, _, _ => h.elim
  | [], _ :: _, _, h, _, _ => h.elim
  | _ :: _, [], _, h, _, _ => h.elim
  | _ :: _, _ :: _, [], h, _, _ => h.elim
  | c :: cs, x :: xs, F :: Fs, h, hn, hg => by
    rw [List.flatten_cons] at hg
    exact ⟨r.ownk h.1 hn (fun i hi => hg i (List.mem_append_left _ hi)), ownRows.keep h.2 hn (fun i hi => hg i (List.mem_append_right _ hi))⟩
theorem ownRows.len : ∀ {rows : List (List Value)} {xs : List α} {Fs : List (List Nat)}, ownRows r H rows xs Fs → rows.length = xs.length ∧ Fs.length = xs.length
  | [], [], [], _ => ⟨rfl, rfl⟩
  | [], [], _ :: _, h => h.elim
  | [], _ :: _, _, h => h.elim
  | _ :: _, [], _, h => h.elim
  | _ :: _, _ :: _, [], h => h.elim
  | c :: cs, x :: xs, F :: Fs, h => by
    have := ownRows.len h.2
    exact ⟨by simp [this.1], by simp [this.2]⟩
end
/-- A slice. -/
def rSlc {α : Type} (r : Rep α) : Rep (List α) where
  sz := 1
  rd := fun H cs xs => ∃ v rows, cs = [v] ∧ Sl H v r.sz xs.length rows.flatten ∧ rdRows r H rows xs
  own := fun H cs xs F => (cs = [.slice none 0 0] ∧ xs = [] ∧ F = []) ∨
    ∃ p o pre rows post Fs, cs = [.slice (some ⟨p, o, none⟩) xs.length r.sz] ∧ p < H.nxt ∧ H.get p = some (.own (mid pre rows.flatten post)) ∧ pre.length = o ∧ ownRows r H rows xs Fs ∧ F = p :: Fs.flatten
  tot := fun xs => xs.length + (xs.map r.tot).sum
  fit := fun xs => xs.length ≤ 9223372036854775807 ∧ ∀ x ∈ xs, r.fit x
  mar := mkL r.mar
  val := one1
  valc := fun ⟨v, rows, h1, h2, _⟩ => by
    subst h1
    exact ⟨h2.cells_, h2.noTup_⟩
  len := fun ⟨v, _, h, _⟩ => by rw [h]; rfl
  rdk := fun ⟨v, rows, h1, h2, h3⟩ k => ⟨v, rows, h1, h2.keep k, h3.keep k⟩
  ownrd := fun {H cs xs F} h => by
    rcases h with ⟨rfl, rfl, _⟩ | ⟨p, o, pre, rows, post, Fs, rfl, hp, hg, ho, hr, _⟩
    · exact ⟨_, [], rfl, ⟨by simp, .inl ⟨rfl, rfl⟩⟩, .nil⟩
    · have h1 := hr.rd
      refine ⟨_, rows, rfl, ⟨?_, .inr ⟨p, o, rfl, hp, fun j c hj => ⟨_, hg, ?_⟩⟩⟩, h1⟩
      · rw [flatten_length h1.sz, hr.len.1]
      · have hjl := (List.getElem?_eq_some_iff.1 hj).1
        simp only [Obj.cells, mid]
        rw [List.getElem?_append_left (by rw [List.length_append]; omega), List.getElem?_append_right (by omega), ho, Nat.add_sub_cancel_left]
        exact hj
  ownlt := fun {H cs xs F} h => by
    rcases h with ⟨_, _, rfl⟩ | ⟨p, o, pre, rows, post, Fs, _, hp, _, _, hr, rfl⟩
    · intro i hi; cases hi
    · intro i hi
      rcases List.mem_cons.1 hi with rfl | hi
      · exact hp
      · exact hr.lt i hi
  ownk := fun {H H' cs xs F} h hn hg => by
    rcases h with h | ⟨p, o, pre, rows, post, Fs, h1, hp, h2, ho, hr, rfl⟩
    · exact .inl h
    · exact .inr ⟨p, o, pre, rows, post, Fs, h1, Nat.lt_of_lt_of_le hp hn, by rw [hg p (by simp)]; exact h2, ho, hr.keep hn (fun i hi => hg i (by simp [hi])), rfl⟩
/-- Two of them, one behind the other. -/
def rPair {α β : Type} (r : Rep α) (s : Rep β) : Rep (α × β) where
  sz := r.sz + s.sz
  rd := fun H cs x => ∃ c d, cs = c ++ d ∧ r.rd H c x.1 ∧ s.rd H d x.2
  own := fun H cs x F => ∃ c d E G, cs = c ++ d ∧ r.own H c x.1 E ∧ s.own H d x.2 G ∧ F = E ++ G
  tot := fun x => r.tot x.1 + s.tot x.2
  fit := fun x => r.fit x.1 ∧ s.fit x.2
  val := fun cs => .agg cs.toArray
  valc := fun _ => ⟨by simp [vcells], rfl⟩
  mar := fun x k => (((r.mar x.1 k).1, (s.mar x.2 (r.mar x.1 k).2).1), (s.mar x.2 (r.mar x.1 k).2).2)
  len := fun ⟨c, d, h, h1, h2⟩ => by rw [h, List.length_append, r.len h1, s.len h2]
  rdk := fun ⟨c, d, h, h1, h2⟩ k => ⟨c, d, h, r.rdk h1 k, s.rdk h2 k⟩
  ownrd := fun ⟨c, d, E, G, h, h1, h2, _⟩ => ⟨c, d, h, r.ownrd h1, s.ownrd h2⟩
  ownlt := fun ⟨c, d, E, G, h, h1, h2, hF⟩ i hi => by
    rw [hF] at hi
    rcases List.mem_append.1 hi with hi | hi
    · exact r.ownlt h1 i hi
    · exact s.ownlt h2 i hi
  ownk := fun ⟨c, d, E, G, h, h1, h2, hF⟩ hn hg => by
    subst hF
    exact ⟨c, d, E, G, h, r.ownk h1 hn (fun i hi => hg i (List.mem_append_left _ hi)), s.ownk h2 hn (fun i hi => hg i (List.mem_append_right _ hi)), rfl⟩
theorem Rep.ownKeep {α : Type} (r : Rep α) {H H' : Heap} {cs : List Value} {a : α} {F : List Nat} (h : r.own H cs a F) (k : Keep H H') : r.own H' cs a F := r.ownk h k.nxt (fun i hi => k.get i (r.ownlt h i hi))
theorem Rep.ownChg {α : Type} (r : Rep α) {H H' : Heap} {cs : List Value} {a : α} {F G : List Nat} (h : r.own H cs a F) (k : Chg G H H') (hd : ∀ i ∈ F, i ∉ G) : r.own H' cs a F := r.ownk h k.nxt (fun i hi => k.get i (r.ownlt h i hi) (hd i hi))
/-- What is new, and its own alone. -/
def Fresh (H H' : Heap) (F : List Nat) : Prop := F.Nodup ∧ ∀ i ∈ F, H.nxt ≤ i ∧ i < H'.nxt
/-! ### What the laws' helpers do -/
end Go.Proofs.Ytjjglonmaajjoaa.AX
namespace Go.Proofs.Ytjjglonmaajjoaa.AX
open Go
set_option maxRecDepth 10000
set_option linter.unusedSimpArgs false
set_option linter.unusedVariables false

section
variable {α : Type} {f : α → Value} {m : Nat → α} {hf : ∀ a, oneCell (f a) = true} {H : Heap}
theorem leaf_rows : ∀ {rows : List (List Value)} {xs : List α}, rdRows (leafRep f m hf) H rows xs → rows = xs.map fun a => [f a]
  | [], [], _ => rfl
  | c :: cs, x :: xs, .cons h h' => by
    have e : c = [f x] := h
    rw [e, leaf_rows h']
    rfl
theorem flat_map_one : ∀ (xs : List α), (xs.map fun a => [f a]).flatten = xs.map f
  | [] => rfl
  | x :: xs => by
    have := flat_map_one xs
    simp only [List.map_cons, List.flatten_cons, this]
    rfl
theorem leaf_rd {cs : List Value} {xs : List α} (h : (rSlc (leafRep f m hf)).rd H cs xs) : ∃ v, cs = [v] ∧ Sl H v 1 xs.length (xs.map f) := by
  obtain ⟨v, rows, h1, h2, h3⟩ := h
  rw [leaf_rows h3, flat_map_one] at h2
  exact ⟨v, h1, h2⟩
theorem leaf_ownRows' : ∀ (xs : List α), ∃ Fs, ownRows (leafRep f m hf) H (xs.map fun a => [f a]) xs Fs ∧ Fs.flatten = []
  | [] => ⟨[], trivial, rfl⟩
  | x :: xs => by
    obtain ⟨Fs, h1, h2⟩ := leaf_ownRows' xs
    exact ⟨[] :: Fs, ⟨⟨rfl, rfl⟩, h1⟩, by rw [List.flatten_cons, h2]; rfl⟩
theorem leaf_own' {xs : List α} {p : Nat} {pre post : List Value} (hp : p < H.nxt) (hg : H.get p = some (.own (mid pre (xs.map f) post))) : (rSlc (leafRep f m hf)).own H [.slice (some ⟨p, pre.length, none⟩) xs.length 1] xs [p] := by
  obtain ⟨Fs, h1, h2⟩ := leaf_ownRows' (f := f) (m := m) (hf := hf) (H := H) xs
  exact .inr ⟨p, pre.length, pre, _, post, Fs, rfl, hp, by rw [flat_map_one]; exact hg, rfl, h1, by rw [h2]⟩
theorem leaf_own0 {xs : List α} {p : Nat} (hp : p < H.nxt) (hg : H.get p = some (.own (xs.map f))) : (rSlc (leafRep f m hf)).own H [.slice (some ⟨p, 0, none⟩) xs.length 1] xs [p] :=
  leaf_own' (pre := []) (post := []) hp (by simpa [mid] using hg)
end
theorem mid_len {pre A post : List Value} : (mid pre A post).length = pre.length + A.length + post.length := by simp [mid]; omega
/-! ### Copies of slices of plain values -/
/-! ### Equality of slices of plain values -/
/-! ### Marks on slices of plain values -/
theorem wrap8 (n : Nat) : IntKind.u8.wrap (n : Int) = ((n % 256 : Nat) : Int) := by
  simp only [IntKind.wrap, IntKind.bits, IntKind.signed, Bool.false_and]
  simp
/-! ### Marks, held against what is there -/
/-! ### How many there are -/
end Go.Proofs.Ytjjglonmaajjoaa.AX
namespace Go.Proofs.Ytjjglonmaajjoaa.AX
open Go
set_option maxRecDepth 10000
set_option linter.unusedSimpArgs false
set_option linter.unusedVariables false

/-! ### Regions of open order in which what reads has an order to what turns -/
def isLoad : XOp → Bool
  | .load1 _ | .loadN .. | .b2s _ => true
  | _ => false
def tame (pre : List (List Nat)) (os : List XO) : Bool := (List.range os.length).all fun i => (List.range os.length).all fun j => match os[i]?, os[j]? with
  | some a, some b => !(isLoad a.op && (kindE b.op || kindA b.op)) || (pre_ pre i j || pre_ pre j i)
  | _, _ => true
def okTr (os : List XO) : Tr → Prop
  | .L i _ => ∃ o, os[i]? = some o ∧ isLoad o.op = true
  | .E i _ _ => ∃ o, os[i]? = some o ∧ kindE o.op = true
  | .A i _ => ∃ o, os[i]? = some o ∧ kindA o.op = true
theorem tame_get {pre : List (List Nat)} {os : List XO} (h : tame pre os = true) {i j : Nat} {a b : XO} (ha : os[i]? = some a) (hb : os[j]? = some b) (hl : isLoad a.op = true) (hk : kindE b.op = true ∨ kindA b.op = true) : (pre_ pre i j || pre_ pre j i) = true := by
  simp only [tame, List.all_eq_true, List.mem_range] at h
  have := h i (List.getElem?_eq_some_iff.1 ha).1 j (List.getElem?_eq_some_iff.1 hb).1
  rw [ha, hb] at this
  have hk' : (kindE b.op || kindA b.op) = true := by rcases hk with hk | hk <;> simp [hk]
  simp only [hl, hk', Bool.and_self, Bool.not_true, Bool.false_or] at this
  exact this
theorem okTr_agrees {pre : List (List Nat)} {os : List XO} (h : tame pre os = true) {t u : Tr} (ht : okTr os t) (hu : okTr os u) : agrees pre t u := by
  cases t with
  | L i x =>
    obtain ⟨a, ha, hl⟩ := ht
    cases u with
    | L j y => trivial
    | E j H H' =>
      obtain ⟨b, hb, hk⟩ := hu
      show Zio _ _ _ _ _ _
      unfold Zio
      rw [if_pos (tame_get h ha hb hl (.inl hk))]
      trivial
    | A j y =>
      obtain ⟨b, hb, hk⟩ := hu
      show Zip _ _ _ _ _
      unfold Zip
      rw [if_pos (tame_get h ha hb hl (.inr hk))]
      trivial
  | E j H H' =>
    cases u with
    | L i x =>
      obtain ⟨b, hb, hk⟩ := ht
      obtain ⟨a, ha, hl⟩ := hu
      show Zio _ _ _ _ _ _
      unfold Zio
      rw [if_pos (tame_get h ha hb hl (.inl hk))]
      trivial
    | E _ _ _ => trivial
    | A _ _ => trivial
  | A j y =>
    cases u with
    | L i x =>
      obtain ⟨b, hb, hk⟩ := ht
      obtain ⟨a, ha, hl⟩ := hu
      show Zip _ _ _ _ _
      unfold Zip
      rw [if_pos (tame_get h ha hb hl (.inr hk))]
      trivial
    | E _ _ _ => trivial
    | A _ _ => trivial
theorem okTr_stable {pre : List (List Nat)} {os : List XO} (h : tame pre os = true) : ∀ {tr : List Tr}, (∀ t ∈ tr, okTr os t) → stable pre tr
  | [], _ => trivial
  | t :: tr, ht => by
    refine ⟨?_, okTr_stable h (fun u hu => ht u (by simp [hu]))⟩
    have key : ∀ us : List Tr, (∀ u ∈ us, okTr os u) → agreesAll pre t us := by
      intro us
      induction us with
      | nil => intro _; trivial
      | cons u us ih => intro hus; exact ⟨okTr_agrees h (ht t (by simp)) (hus u (by simp)), ih (fun v hv => hus v (by simp [hv]))⟩
    exact key tr (fun u hu => ht u (by simp [hu]))
theorem tame_dops {C : CallRel} {pre : List (List Nat)} {os0 : List XO} (h0 : tame pre os0 = true) : ∀ {os : List XO} {i : Nat} {tr : List Tr} {K : Tm → Heap → Prop} {T : Tm} {H : Heap}, os0.drop i = os → (∀ t ∈ tr, okTr os0 t) → Wops C os K T H → Dops C pre i os tr K T H
  | [], i, tr, K, T, H, _, ht, h => ⟨okTr_stable h0 ht, h⟩
  | o :: os, i, tr, K, T, H, hd, ht, h => by
    have ho : os0[i]? = some o := by
      have : (os0.drop i)[0]? = some o := by rw [hd]; rfl
      rwa [List.getElem?_drop] at this
    have hd' : os0.drop (i + 1) = os := by rw [← List.drop_drop, hd]; rfl
    simp only [Wops, Dops] at h ⊢
    split
    · rename_i hw
      rw [if_pos hw] at h
      have key : ∀ v H', Wops C os K (put T o.dst v) H' → Dops C pre (i + 1) os (trOf i T H H' o.op ++ tr) K (put T o.dst v) H' := fun v H' h1 => by
        refine tame_dops h0 hd' (fun t ht' => ?_) h1
        rcases List.mem_append.1 ht' with h2 | h2
        · cases hop : o.op <;> rw [hop] at h2 <;> simp only [trOf] at h2
          case load1 =>
            split at h2
            · rw [List.mem_singleton.1 h2]; exact ⟨o, ho, by rw [hop]; rfl⟩
            · cases h2
          case loadN =>
            split at h2
            · rw [List.mem_singleton.1 h2]; exact ⟨o, ho, by rw [hop]; rfl⟩
            · cases h2
          case b2s =>
            split at h2
            · rw [List.mem_singleton.1 h2]; exact ⟨o, ho, by rw [hop]; rfl⟩
            · cases h2
          all_goals first
            | (cases h2; done)
            | (rw [List.mem_singleton.1 h2]; exact ⟨o, ho, by rw [hop]; rfl⟩)
        · exact ht t h2
      exact h.imp (fun _ _ _ _ _ h => h) key
    · rename_i hw
      rw [if_neg hw] at h
      exact tame_dops h0 hd' ht h
theorem G_tame {C : CallRel} {pre : List (List Nat)} {os : List XO} {ks : List Fr} {Q : XE → Tm → Heap → Prop} {T : Tm} {H : Heap} (hc : tame pre os = true) (h : GO C os ks Q T H) : G C (.dreg pre os) ks Q T H := tame_dops hc rfl (fun _ h => by cases h) h
section
variable {α : Type} {r : Rep α} {agg : Bool} {sz : Nat} {H : Heap}
theorem flat_row : ∀ {rows : List (List Value)}, (∀ c ∈ rows, c.length = sz) → ∀ {i : Nat} {row : List Value}, rows[i]? = some row → (rows.flatten.drop (i * sz)).take sz = row
  | [], _, i, row, h => by simp at h
  | c :: rows, hs, 0, row, h => by
    have : c = row := by simpa using h
    subst this
    have hl := hs c (by simp)
    rw [Nat.zero_mul, List.drop_zero, List.flatten_cons, List.take_append_of_le_length (by omega), List.take_of_length_le (by omega)]
  | c :: rows, hs, i + 1, row, h => by
    have hl := hs c (by simp)
    have h' : rows[i]? = some row := by simpa using h
    rw [List.flatten_cons, show (i + 1) * sz = c.length + i * sz by rw [Nat.add_mul, Nat.one_mul, hl]; omega, List.drop_append, List.drop_of_length_le (by omega), List.nil_append, Nat.add_sub_cancel_left]
    exact flat_row (fun c hc => hs c (by simp [hc])) h'
theorem tot_get {xs : List α} {i : Nat} (hi : i < xs.length) : r.tot xs[i] ≤ (rSlc r).tot xs := by
  have : ∀ xs : List α, ∀ x ∈ xs, r.tot x ≤ (xs.map r.tot).sum := by
    intro xs
    induction xs with
    | nil => intro x hx; cases hx
    | cons y ys ih =>
      intro x hx
      rw [List.map_cons, List.sum_cons]
      rcases List.mem_cons.1 hx with rfl | hx
      · omega
      · have := ih x hx; omega
  have h1 := this xs _ (List.getElem_mem hi)
  have h2 : (rSlc r).tot xs = xs.length + (xs.map r.tot).sum := rfl
  omega
theorem rows_get {rows : List (List Value)} {xs : List α} (hr : rdRows r H rows xs) {i : Nat} (hi : i < xs.length) : ∃ row, rows[i]? = some row ∧ r.rd H row xs[i] := by
  have hl := hr.length
  have h1 : rows[i]? = some rows[i] := List.getElem?_eq_getElem (by omega)
  obtain ⟨b, h2, h3⟩ := hr.get i _ h1
  rw [List.getElem?_eq_getElem hi] at h2
  injection h2 with h2
  exact ⟨_, h1, by rw [h2]; exact h3⟩
end
theorem ownRows_snoc {α : Type} {r : Rep α} {H : Heap} : ∀ {rows : List (List Value)} {xs : List α} {Fs : List (List Nat)} {c : List Value} {x : α} {F : List Nat}, ownRows r H rows xs Fs → r.own H c x F → ownRows r H (rows ++ [c]) (xs ++ [x]) (Fs ++ [F])
  | [], [], [], _, _, _, _, h => ⟨h, trivial⟩
  | [], [], _ :: _, _, _, _, h, _ => h.elim
  | [], _ :: _, _, _, _, _, h, _ => h.elim
  | _ :: _, [], _, _, _, _, h, _ => h.elim
  | _ :: _, _ :: _, [], _, _, _, h, _ => h.elim
  | _ :: _, _ :: _, _ :: _, _, _, _, h, h' => ⟨h.1, ownRows_snoc h.2 h'⟩
end Go.Proofs.Ytjjglonmaajjoaa.AX
namespace Go.Proofs.Ytjjglonmaajjoaa.AX
open Go
section
variable {C : CallRel} {ks : List Fr} {Q : XE → Tm → Heap → Prop} {T : Tm} {H : Heap} {os : List XO} {d : Option Nat} {pre : List (List Nat)} {ix : Nat} {tr : List Tr}
def dK (C : CallRel) (pre : List (List Nat)) (i : Nat) (d : Option Nat) (op : XOp) (os : List XO) (tr : List Tr) (ks : List Fr) (Q : XE → Tm → Heap → Prop) (T : Tm) (H : Heap) (r : Option (Value × Heap)) : Prop := match r with
  | some p => GD C pre (i + 1) os (trOf i T H p.2 op ++ tr) ks Q (put T d p.1) p.2
  | none => False
theorem Zft {op : XOp} {v : Value} {H' : Heap} : dK C pre ix d op os tr ks Q T H (some (v, H')) = GD C pre (ix + 1) os (trOf ix T H H' op ++ tr) ks Q (put T d v) H' := nofl rfl
theorem GD_op {op : XOp} (h : isCall op = false) : GD C pre ix (⟨d, op, none⟩ :: os) tr ks Q T H = dK C pre ix d op os tr ks Q T H (step T H op) := by
  cases op <;> simp only [isCall, reduceCtorEq] at h <;> simp only [GD, Dops, wanted, if_true, Op1, dK] <;> rfl
theorem Zfu : GD C pre ix [] tr ks Q T H = (stable pre tr ∧ GX C .nrm ks Q T H) := nofl rfl
theorem GD_call {P : Program} {f : FuncId} {xs : List XArg} (h : Run P f (xs.map (ev T)) H fun v H' => GD (CR P) pre (ix + 1) os (.E ix H H' :: tr) ks Q (put T d v) H') : GD (CR P) pre ix (⟨d, .call f xs, none⟩ :: os) tr ks Q T H := by
  obtain ⟨v, H', h1, h2⟩ := h
  exact ⟨v, H', h1, h2⟩
theorem GD_calld {P : Program} {x : XArg} {f : FuncId} {cs : Array Value} {xs : List XArg} (e : ev T x = .func (.func f) #[] cs) (h : Run P f (xs.map (ev T) ++ cs.toList) H fun v H' => GD (CR P) pre (ix + 1) os (.E ix H H' :: tr) ks Q (put T d v) H') : GD (CR P) pre ix (⟨d, .calld x xs, none⟩ :: os) tr ks Q T H := by
  obtain ⟨v, H', h1, h2⟩ := h
  exact ⟨f, cs, e, v, H', h1, h2⟩
def dgK (C : CallRel) (pre : List (List Nat)) (i : Nat) (v : Value) (w : Bool) (d : Option Nat) (op : XOp) (os : List XO) (tr : List Tr) (ks : List Fr) (Q : XE → Tm → Heap → Prop) (T : Tm) (H : Heap) : Prop :=
  if (match v with | .bool b => b == w | _ => false) = true then GD C pre i (⟨d, op, none⟩ :: os) tr ks Q T H else GD C pre (i + 1) os tr ks Q (put T d undef) H
theorem Zfv {op : XOp} {t : Nat} {w : Bool} : GD C pre ix (⟨d, op, some (t, w)⟩ :: os) tr ks Q T H = dgK C pre ix (T t) w d op os tr ks Q T H := by
  simp only [GD, dgK, Dops, wanted]
  rfl
theorem Zfw {op : XOp} : dgK C pre ix (.bool true) true d op os tr ks Q T H = GD C pre ix (⟨d, op, none⟩ :: os) tr ks Q T H := by simp [dgK]
theorem Zfx {op : XOp} : dgK C pre ix (.bool true) false d op os tr ks Q T H = GD C pre (ix + 1) os tr ks Q (put T d undef) H := by simp [dgK]
theorem Zfy {op : XOp} : dgK C pre ix (.bool false) true d op os tr ks Q T H = GD C pre (ix + 1) os tr ks Q (put T d undef) H := by simp [dgK]
theorem Zfz {op : XOp} : dgK C pre ix (.bool false) false d op os tr ks Q T H = GD C pre ix (⟨d, op, none⟩ :: os) tr ks Q T H := by simp [dgK]
theorem Zga {op : XOp} {w : Bool} : dgK C pre ix undef w d op os tr ks Q T H = GD C pre (ix + 1) os tr ks Q (put T d undef) H := by simp [dgK, undef]
theorem Zgb {x : XArg} : GD C pre ix (⟨d, (.mov x), none⟩ :: os) tr ks Q T H = dK C pre ix d (.mov x) os tr ks Q T H (some (ev T x, H)) := by rw [GD_op rfl, step_mov]
theorem Zgc {c a b : XArg} : GD C pre ix (⟨d, (.pick c a b), none⟩ :: os) tr ks Q T H = dK C pre ix d (.pick c a b) os tr ks Q T H (vpick H (ev T a) (ev T b) (ev T c)) := by rw [GD_op rfl, step_pick]
theorem Zgd {zs : List Value} : GD C pre ix (⟨d, (.new zs), none⟩ :: os) tr ks Q T H = dK C pre ix d (.new zs) os tr ks Q T H (some (ptr H.nxt 0, H.push zs)) := by rw [GD_op rfl, step_new]
theorem Zge {x : XArg} : GD C pre ix (⟨d, (.box x), none⟩ :: os) tr ks Q T H = dK C pre ix d (.box x) os tr ks Q T H (vbox H (ev T x)) := by rw [GD_op rfl, step_box]
theorem Zgf {zs : List Value} {ps : List (Nat × Nat × XArg)} : GD C pre ix (⟨d, (.agg zs ps), none⟩ :: os) tr ks Q T H = dK C pre ix d (.agg zs ps) os tr ks Q T H (vagg H (Zeq zs (ps.map fun p => (p.1, p.2.1, ev T p.2.2)))) := by rw [GD_op rfl, step_agg]
theorem Zgg {sz len : Nat} {zs : List Value} {ps : List (Nat × Nat × XArg)} : GD C pre ix (⟨d, (.bsl sz len zs ps), none⟩ :: os) tr ks Q T H = dK C pre ix d (.bsl sz len zs ps) os tr ks Q T H (vbsl H sz len (Zeq zs (ps.map fun p => (p.1, p.2.1, ev T p.2.2)))) := by rw [GD_op rfl, step_bsl]
theorem Zgh {p : XArg} : GD C pre ix (⟨d, (.load1 p), none⟩ :: os) tr ks Q T H = dK C pre ix d (.load1 p) os tr ks Q T H (vld1 H (ev T p)) := by rw [GD_op rfl, step_load1]
theorem Zgi {n : Nat} {p : XArg} : GD C pre ix (⟨d, (.loadN n p), none⟩ :: os) tr ks Q T H = dK C pre ix d (.loadN n p) os tr ks Q T H (vldN H n (ev T p)) := by rw [GD_op rfl, step_loadN]
theorem Zgj {n : Nat} {p x : XArg} : GD C pre ix (⟨d, (.store n p x), none⟩ :: os) tr ks Q T H = dK C pre ix d (.store n p x) os tr ks Q T H (vst H n (ev T x) (ev T p)) := by rw [GD_op rfl, step_store]
theorem Zgk {x : XArg} : GD C pre ix (⟨d, (.nilc x), none⟩ :: os) tr ks Q T H = dK C pre ix d (.nilc x) os tr ks Q T H (vnil H (ev T x)) := by rw [GD_op rfl, step_nilc]
theorem Zgl {op : BinOp} {x y : XArg} : GD C pre ix (⟨d, (.bin op x y), none⟩ :: os) tr ks Q T H = dK C pre ix d (.bin op x y) os tr ks Q T H (vval H (abin op (ev T x) (ev T y))) := by rw [GD_op rfl, step_bin]
theorem Zgm {ng : Bool} {x y : XArg} : GD C pre ix (⟨d, (.binB ng x y), none⟩ :: os) tr ks Q T H = dK C pre ix d (.binB ng x y) os tr ks Q T H (vbinB H ng (ev T x) (ev T y)) := by rw [GD_op rfl, step_binB]
theorem Zgn {op : UnOp} {x : XArg} : GD C pre ix (⟨d, (.un op x), none⟩ :: os) tr ks Q T H = dK C pre ix d (.un op x) os tr ks Q T H (vval H (aun op (ev T x))) := by rw [GD_op rfl, step_un]
theorem Zgo {k : IntKind} {x : XArg} : GD C pre ix (⟨d, (.toInt k x), none⟩ :: os) tr ks Q T H = dK C pre ix d (.toInt k x) os tr ks Q T H (vtoInt H k (ev T x)) := by rw [GD_op rfl, step_toInt]
theorem Zgp {k : FloatKind} {x : XArg} : GD C pre ix (⟨d, (.toFlt k x), none⟩ :: os) tr ks Q T H = dK C pre ix d (.toFlt k x) os tr ks Q T H (vtoFlt H k (ev T x)) := by rw [GD_op rfl, step_toFlt]
theorem Zgq {k : FloatKind} {x : XArg} : GD C pre ix (⟨d, (.fltOf k x), none⟩ :: os) tr ks Q T H = dK C pre ix d (.fltOf k x) os tr ks Q T H (vfltOf H k (ev T x)) := by rw [GD_op rfl, step_fltOf]
theorem Zgr {sz bytes : Nat} {z : List Value} {l c : XArg} : GD C pre ix (⟨d, (.mks sz bytes z l c), none⟩ :: os) tr ks Q T H = dK C pre ix d (.mks sz bytes z l c) os tr ks Q T H (vmks H sz bytes z (ev T l) (ev T c)) := by rw [GD_op rfl, step_mks]
theorem Zgs {off : Nat} {x : XArg} : GD C pre ix (⟨d, (.fad off x), none⟩ :: os) tr ks Q T H = dK C pre ix d (.fad off x) os tr ks Q T H (vfad H off (ev T x)) := by rw [GD_op rfl, step_fad]
theorem Zgt {off : Nat} {x : XArg} : GD C pre ix (⟨d, (.fdv1 off x), none⟩ :: os) tr ks Q T H = dK C pre ix d (.fdv1 off x) os tr ks Q T H (vfdv1 H off (ev T x)) := by rw [GD_op rfl, step_fdv1]
theorem Zgu {off n : Nat} {x : XArg} : GD C pre ix (⟨d, (.fdvN off n x), none⟩ :: os) tr ks Q T H = dK C pre ix d (.fdvN off n x) os tr ks Q T H (vfdvN H off n (ev T x)) := by rw [GD_op rfl, step_fdvN]
theorem Zgv {sz : Nat} {x i : XArg} : GD C pre ix (⟨d, (.idx sz x i), none⟩ :: os) tr ks Q T H = dK C pre ix d (.idx sz x i) os tr ks Q T H (vidx H sz (ev T x) (ev T i)) := by rw [GD_op rfl, step_idx]
theorem GD_aidx {len sz : Nat} {x i : XArg} : GD C pre ix (⟨d, (.aidx len sz x i), none⟩ :: os) tr ks Q T H = dK C pre ix d (.aidx len sz x i) os tr ks Q T H (vaidx H len sz (ev T x) (ev T i)) := by rw [GD_op rfl, step_aidx]
theorem Zgw {i : Nat} {x : XArg} : GD C pre ix (⟨d, (.ext i x), none⟩ :: os) tr ks Q T H = dK C pre ix d (.ext i x) os tr ks Q T H (vext H i (ev T x)) := by rw [GD_op rfl, step_ext]
theorem Zgx {x : XArg} : GD C pre ix (⟨d, (.len x), none⟩ :: os) tr ks Q T H = dK C pre ix d (.len x) os tr ks Q T H (vlen H (ev T x)) := by rw [GD_op rfl, step_len]
theorem Zgy {x : XArg} : GD C pre ix (⟨d, (.lenS x), none⟩ :: os) tr ks Q T H = dK C pre ix d (.lenS x) os tr ks Q T H (vlenS H (ev T x)) := by rw [GD_op rfl, step_lenS]
theorem Zgz {mx : Bool} {x y : XArg} : GD C pre ix (⟨d, (.mm mx x y), none⟩ :: os) tr ks Q T H = dK C pre ix d (.mm mx x y) os tr ks Q T H (vmm H mx (ev T x) (ev T y)) := by rw [GD_op rfl, step_mm]
theorem Zha {sz : Nat} {x : XArg} {lo hi mx : Option XArg} : GD C pre ix (⟨d, (.slc sz x lo hi mx), none⟩ :: os) tr ks Q T H = dK C pre ix d (.slc sz x lo hi mx) os tr ks Q T H (vslc H sz (evO T lo) (evO T hi) (evO T mx) (ev T x)) := by rw [GD_op rfl, step_slc]
def trL (i : Nat) : Value → List Tr
  | .pointer (some ⟨x, _, none⟩) => [.L i x]
  | _ => []
theorem Zhf {x o : Nat} : trL ix (ptr x o) = [.L ix x] := nofl rfl
theorem Zhb {H' : Heap} {p : XArg} : trOf ix T H H' (.load1 p) = trL ix (ev T p) := nofl rfl
theorem Zhc {H' : Heap} {n : Nat} {p : XArg} : trOf ix T H H' (.loadN n p) = trL ix (ev T p) := nofl rfl
theorem Zhd {H' : Heap} {n : Nat} {p x : XArg} : trOf ix T H H' (.store n p x) = [.E ix H H'] := nofl rfl
theorem Zhe {H' : Heap} {n b : Nat} {p x : XArg} : trOf ix T H H' (.app n b p x) = [.E ix H H'] := nofl rfl
theorem Zhg {H' : Heap} {x : XArg} : trOf ix T H H' (.mov x) = [] := nofl rfl
theorem Zhh {H' : Heap} {c a b : XArg} : trOf ix T H H' (.pick c a b) = [] := nofl rfl
theorem Zhi {H' : Heap} {zs : List Value} : trOf ix T H H' (.new zs) = [.A ix H.nxt] := nofl rfl
theorem Zhj {H' : Heap} {x : XArg} : trOf ix T H H' (.box x) = [.A ix H.nxt] := nofl rfl
theorem Zhk {H' : Heap} {zs : List Value} {ps : List (Nat × Nat × XArg)} : trOf ix T H H' (.agg zs ps) = [] := nofl rfl
theorem Zhl {H' : Heap} {sz len : Nat} {zs : List Value} {ps : List (Nat × Nat × XArg)} : trOf ix T H H' (.bsl sz len zs ps) = [.A ix H.nxt] := nofl rfl
theorem Zhm {H' : Heap} {x : XArg} : trOf ix T H H' (.nilc x) = [] := nofl rfl
theorem Zhn {H' : Heap} {op : BinOp} {x y : XArg} : trOf ix T H H' (.bin op x y) = [] := nofl rfl
theorem Zho {H' : Heap} {ng : Bool} {x y : XArg} : trOf ix T H H' (.binB ng x y) = [] := nofl rfl
theorem Zhp {H' : Heap} {op : UnOp} {x : XArg} : trOf ix T H H' (.un op x) = [] := nofl rfl
theorem Zhq {H' : Heap} {k : IntKind} {x : XArg} : trOf ix T H H' (.toInt k x) = [] := nofl rfl
theorem Zhr {H' : Heap} {k : FloatKind} {x : XArg} : trOf ix T H H' (.toFlt k x) = [] := nofl rfl
theorem Zhs {H' : Heap} {k : FloatKind} {x : XArg} : trOf ix T H H' (.fltOf k x) = [] := nofl rfl
theorem Zht {H' : Heap} {sz bytes : Nat} {z : List Value} {l c : XArg} : trOf ix T H H' (.mks sz bytes z l c) = [.A ix H.nxt] := nofl rfl
theorem Zhu {H' : Heap} {off : Nat} {x : XArg} : trOf ix T H H' (.fad off x) = [] := nofl rfl
theorem Zhv {H' : Heap} {off : Nat} {x : XArg} : trOf ix T H H' (.fdv1 off x) = [] := nofl rfl
theorem Zhw {H' : Heap} {off n : Nat} {x : XArg} : trOf ix T H H' (.fdvN off n x) = [] := nofl rfl
theorem Zhx {H' : Heap} {sz : Nat} {x i : XArg} : trOf ix T H H' (.idx sz x i) = [] := nofl rfl
theorem trOf_aidx {H' : Heap} {len sz : Nat} {x i : XArg} : trOf ix T H H' (.aidx len sz x i) = [] := nofl rfl
theorem Zhy {H' : Heap} {i : Nat} {x : XArg} : trOf ix T H H' (.ext i x) = [] := nofl rfl
theorem Zhz {H' : Heap} {x : XArg} : trOf ix T H H' (.len x) = [] := nofl rfl
theorem Zia {H' : Heap} {x : XArg} : trOf ix T H H' (.lenS x) = [] := nofl rfl
theorem Zib {H' : Heap} {mx : Bool} {x y : XArg} : trOf ix T H H' (.mm mx x y) = [] := nofl rfl
theorem Zic {H' : Heap} {sz : Nat} {x : XArg} {lo hi mx : Option XArg} : trOf ix T H H' (.slc sz x lo hi mx) = [] := nofl rfl
end
theorem Zid {pre : List (List Nat)} : stable pre [] = True := nofl rfl
theorem Zie {pre : List (List Nat)} {t : Tr} {tr : List Tr} : stable pre (t :: tr) = (agreesAll pre t tr ∧ stable pre tr) := nofl rfl
theorem all_nil {pre : List (List Nat)} {t : Tr} : agreesAll pre t [] = True := nofl rfl
theorem all_cons {pre : List (List Nat)} {t u : Tr} {us : List Tr} : agreesAll pre t (u :: us) = (agrees pre t u ∧ agreesAll pre t us) := nofl rfl
theorem Zif {pre : List (List Nat)} {i x j y : Nat} : agrees pre (.L i x) (.L j y) = True := nofl rfl
theorem Zig {pre : List (List Nat)} {i j : Nat} {H H' H1 H2 : Heap} : agrees pre (.E i H H') (.E j H1 H2) = True := nofl rfl
theorem Zih {pre : List (List Nat)} {i x j y : Nat} : agrees pre (.A i x) (.A j y) = True := nofl rfl
theorem Zii {pre : List (List Nat)} {i x j : Nat} {H H' : Heap} : agrees pre (.A i x) (.E j H H') = True := nofl rfl
theorem Zij {pre : List (List Nat)} {i x j : Nat} {H H' : Heap} : agrees pre (.E j H H') (.A i x) = True := nofl rfl
theorem Zik {pre : List (List Nat)} {i x j : Nat} {H H' : Heap} : agrees pre (.L i x) (.E j H H') = Zio pre i x j H H' := nofl rfl
theorem Zil {pre : List (List Nat)} {i x j : Nat} {H H' : Heap} : agrees pre (.E j H H') (.L i x) = Zio pre i x j H H' := nofl rfl
theorem Zim {pre : List (List Nat)} {i x j y : Nat} : agrees pre (.L i x) (.A j y) = Zip pre i x j y := nofl rfl
theorem Zin {pre : List (List Nat)} {i x j y : Nat} : agrees pre (.A j y) (.L i x) = Zip pre i x j y := nofl rfl
end Go.Proofs.Ytjjglonmaajjoaa.AX
namespace Go.Proofs.Ytjjglonmaajjoaa.AX
open Go
set_option maxRecDepth 10000
theorem ZD : type_of% (And.intro @Zft (And.intro @Zfu (And.intro @Zfv (And.intro @Zfw (And.intro @Zfx (And.intro @Zfy (And.intro @Zfz (And.intro @Zga (And.intro @Zgb (And.intro @Zgc (And.intro @Zgd (And.intro @Zge (And.intro @Zgf (And.intro @Zgg (And.intro @Zgh (And.intro @Zgi (And.intro @Zgj (And.intro @Zgk (And.intro @Zgl (And.intro @Zgm (And.intro @Zgn (And.intro @Zgo (And.intro @Zgp (And.intro @Zgq (And.intro @Zgr (And.intro @Zgs (And.intro @Zgt (And.intro @Zgu (And.intro @Zgv (And.intro @GD_aidx (And.intro @Zgw (And.intro @Zgx (And.intro @Zgy (And.intro @Zgz (And.intro @Zha (And.intro @Zhb (And.intro @Zhc (And.intro @Zhd (And.intro @Zhe (And.intro @Zhf (And.intro @Zhg (And.intro @Zhh (And.intro @Zhi (And.intro @Zhj (And.intro @Zhk (And.intro @Zhl (And.intro @Zhm (And.intro @Zhn (And.intro @Zho (And.intro @Zhp (And.intro @Zhq (And.intro @Zhr (And.intro @Zhs (And.intro @Zht (And.intro @Zhu (And.intro @Zhv (And.intro @Zhw (And.intro @Zhx (And.intro @trOf_aidx (And.intro @Zhy (And.intro @Zhz (And.intro @Zia (And.intro @Zib (And.intro @Zic (And.intro @Zid (And.intro @Zie (And.intro @all_nil (And.intro @all_cons (And.intro @Zif (And.intro @Zig (And.intro @Zih (And.intro @Zii (And.intro @Zij (And.intro @Zik (And.intro @Zil (And.intro @Zim (And.intro @Zin (And.intro @List.getD_cons_zero.{0} (And.intro @List.getD_cons_succ.{0} (And.intro @List.getD_nil.{0} (And.intro @List.contains_cons.{0} (And.intro @List.contains_nil.{0} (And.intro @Bool.or_false (And.intro @Bool.false_or (And.intro @Bool.or_true (And.intro @Bool.true_or (@Bool.false_eq_true))))))))))))))))))))))))))))))))))))))))))))))))))))))))))))))))))))))))))))))))))))))) := And.intro @Zft (And.intro @Zfu (And.intro @Zfv (And.intro @Zfw (And.intro @Zfx (And.intro @Zfy (And.intro @Zfz (And.intro @Zga (And.intro @Zgb (And.intro @Zgc (And.intro @Zgd (And.intro @Zge (And.intro @Zgf (And.intro @Zgg (And.intro @Zgh (And.intro @Zgi (And.intro @Zgj (And.intro @Zgk (And.intro @Zgl (And.intro @Zgm (And.intro @Zgn (And.intro @Zgo (And.intro @Zgp (And.intro @Zgq (And.intro @Zgr (And.intro @Zgs (And.intro @Zgt (And.intro @Zgu (And.intro @Zgv (And.intro @GD_aidx (And.intro @Zgw (And.intro @Zgx (And.intro @Zgy (And.intro @Zgz (And.intro @Zha (And.intro @Zhb (And.intro @Zhc (And.intro @Zhd (And.intro @Zhe (And.intro @Zhf (And.intro @Zhg (And.intro @Zhh (And.intro @Zhi (And.intro @Zhj (And.intro @Zhk (And.intro @Zhl (And.intro @Zhm (And.intro @Zhn (And.intro @Zho (And.intro @Zhp (And.intro @Zhq (And.intro @Zhr (And.intro @Zhs (And.intro @Zht (And.intro @Zhu (And.intro @Zhv (And.intro @Zhw (And.intro @Zhx (And.intro @trOf_aidx (And.intro @Zhy (And.intro @Zhz (And.intro @Zia (And.intro @Zib (And.intro @Zic (And.intro @Zid (And.intro @Zie (And.intro @all_nil (And.intro @all_cons (And.intro @Zif (And.intro @Zig (And.intro @Zih (And.intro @Zii (And.intro @Zij (And.intro @Zik (And.intro @Zil (And.intro @Zim (And.intro @Zin (And.intro @List.getD_cons_zero.{0} (And.intro @List.getD_cons_succ.{0} (And.intro @List.getD_nil.{0} (And.intro @List.contains_cons.{0} (And.intro @List.contains_nil.{0} (And.intro @Bool.or_false (And.intro @Bool.false_or (And.intro @Bool.or_true (And.intro @Bool.true_or (@Bool.false_eq_true))))))))))))))))))))))))))))))))))))))))))))))))))))))))))))))))))))))))))))))))))))))
end Go.Proofs.Ytjjglonmaajjoaa.AX
namespace Go.Proofs.Ytjjglonmaajjoaa.AX
open Go
set_option maxRecDepth 10000
set_option linter.unusedSimpArgs false
set_option linter.unusedVariables false
theorem slc_one {α : Type} {r : Rep α} {H : Heap} {cs : List Value} {xs : List α} (h : (rSlc r).rd H cs xs) : ∃ v, cs = [v] := by
  obtain ⟨v, _, rfl, _⟩ := h
  exact ⟨v, rfl⟩
theorem slc_len {α : Type} {r : Rep α} {H H1 : Heap} {v : Value} {xs : List α} (h : (rSlc r).rd H [v] xs) : vlen H1 v = some (.int .i64 xs.length, H1) := by
  obtain ⟨w, rows, e, h1, _⟩ := h
  obtain rfl : v = w := by simpa using e
  exact h1.len_
/-- A struct of plain fields. -/
def flatRep {α : Type} (f : α → List Value) (n : Nat) (hl : ∀ a, (f a).length = n) (m : α → Nat → α × Nat) : Rep α where
  sz := n
  rd := fun _ cs a => cs = f a
  own := fun _ cs a F => cs = f a ∧ F = []
  tot := fun _ => 0
  fit := fun _ => True
  mar := m
  val := fun cs => .agg cs.toArray
  valc := fun _ => ⟨by simp [vcells], rfl⟩
  len := fun h => by rw [h]; exact hl _
  rdk := fun h _ => h
  ownrd := fun h => h.1
  ownlt := fun h i hi => by rw [h.2] at hi; cases hi
  ownk := fun h _ _ => h
def fcells {α : Type} (f : α → List Value) (xs : List α) : List Value := (xs.map f).flatten
section
variable {α : Type} {f : α → List Value} {n : Nat} {hl : ∀ a, (f a).length = n} {m : α → Nat → α × Nat} {H : Heap}
theorem fcells_cons {x : α} {xs : List α} : fcells f (x :: xs) = f x ++ fcells f xs := rfl
theorem fcells_app {xs ys : List α} : fcells f (xs ++ ys) = fcells f xs ++ fcells f ys := by simp [fcells]
theorem fcells_len (hl : ∀ a, (f a).length = n) : ∀ (xs : List α), (fcells f xs).length = xs.length * n
  | [] => by simp [fcells]
  | x :: xs => by rw [fcells_cons, List.length_append, hl, fcells_len hl xs, List.length_cons, Nat.add_mul]; omega
theorem flat_ownRows' : ∀ (xs : List α), ∃ Fs, ownRows (flatRep f n hl m) H (xs.map f) xs Fs ∧ Fs.flatten = []
  | [] => ⟨[], trivial, rfl⟩
  | x :: xs => by
    obtain ⟨Fs, h1, h2⟩ := flat_ownRows' xs
    exact ⟨[] :: Fs, ⟨⟨rfl, rfl⟩, h1⟩, by rw [List.flatten_cons, h2]; rfl⟩
theorem flat_own' {xs : List α} {p : Nat} {pre post : List Value} (hp : p < H.nxt) (hg : H.get p = some (.own (mid pre (fcells f xs) post))) : (rSlc (flatRep f n hl m)).own H [.slice (some ⟨p, pre.length, none⟩) xs.length n] xs [p] := by
  obtain ⟨Fs, h1, h2⟩ := flat_ownRows' (f := f) (n := n) (m := m) (hl := hl) (H := H) xs
  exact .inr ⟨p, pre.length, pre, _, post, Fs, rfl, hp, hg, rfl, h1, by rw [h2]⟩
theorem flat_own0 {xs : List α} {p : Nat} (hp : p < H.nxt) (hg : H.get p = some (.own (fcells f xs))) : (rSlc (flatRep f n hl m)).own H [.slice (some ⟨p, 0, none⟩) xs.length n] xs [p] :=
  flat_own' (pre := []) (post := []) hp (by simpa [mid] using hg)
theorem flat_tot (xs : List α) : (rSlc (flatRep f n hl m)).tot xs = xs.length := by
  have : ∀ xs : List α, (xs.map (flatRep f n hl m).tot).sum = 0 := by
    intro xs
    induction xs with
    | nil => rfl
    | cons x xs ih => rw [List.map_cons, List.sum_cons, ih]; rfl
  show xs.length + _ = _
  rw [this]; rfl
theorem flat_get (hl : ∀ a, (f a).length = n) : ∀ {xs : List α} {i o : Nat} (hi : i < xs.length), o < n → (fcells f xs)[i * n + o]? = (f xs[i])[o]?
  | [], i, o, hi, _ => absurd hi (by simp)
  | x :: xs, 0, o, _, ho => by rw [fcells_cons, Nat.zero_mul, Nat.zero_add, List.getElem?_append_left (by rw [hl]; exact ho)]; rfl
  | x :: xs, i + 1, o, hi, ho => by
    rw [fcells_cons, List.getElem?_append_right (by rw [hl, Nat.add_mul]; omega), hl, show (i + 1) * n + o - n = i * n + o by rw [Nat.add_mul, Nat.one_mul]; omega]
    exact flat_get hl (by simpa using hi) ho
/-- One element, taken out. -/
theorem flat_elem (hl : ∀ a, (f a).length = n) {xs : List α} {i : Nat} (hi : i < xs.length) : ((fcells f xs).drop (i * n)).take n = f xs[i] := by
  refine List.ext_getElem? fun j => ?_
  rw [List.getElem?_take]
  split
  · rw [List.getElem?_drop, flat_get hl hi (by assumption)]
  · rw [List.getElem?_eq_none (by rw [hl]; omega)]
theorem Sl.elem {v : Value} {xs : List α} {i : Nat} (hl : ∀ a, (f a).length = n) (hn : 0 < n) (h : Sl H v n xs.length (fcells f xs)) (hi : i < xs.length) : vldN H n (adr v i n 0) = some (.agg (f xs[i]).toArray, H) := by
  have := Sl.ldN (o := 0) (m := n) h hi hn (by omega)
  rwa [Nat.add_zero, flat_elem hl hi] at this
end
end Go.Proofs.Ytjjglonmaajjoaa.AX
namespace Go.Proofs.Ytjjglonmaajjoaa.AX
open Go
set_option maxRecDepth 10000
set_option linter.unusedSimpArgs false
set_option linter.unusedVariables false
section
variable {H H1 : Heap} {v x : Value} {sz n k bytes p : Nat} {cs ds : List Value}
/-- The cells that a slice reads, cut out of its block. -/
theorem Sl.seg {j o : Nat} (h : Sl H (.slice (some ⟨j, o, none⟩) n sz) sz n cs) (h0 : 0 < n * sz) : ∃ ob, H.get j = some ob ∧ o + n * sz ≤ ob.cells.length ∧ (ob.cells.drop o).take (n * sz) = cs := by
  have hl := h.1
  rcases h.2 with ⟨e, _⟩ | ⟨j', o', e, hj, hc⟩
  · cases e
  · cases e
    obtain ⟨ob, hob, hlt⟩ := hc (n * sz - 1) (cs[n * sz - 1]'(by omega)) (List.getElem?_eq_getElem (by omega))
    have hobl : o + (n * sz - 1) < ob.cells.length := (List.getElem?_eq_some_iff.1 hlt).1
    refine ⟨ob, hob, by omega, List.ext_getElem? fun i => ?_⟩
    rw [List.getElem?_take]
    split
    · rename_i hi
      rw [List.getElem?_drop]
      have hx : cs[i]? = some (cs[i]'(by omega)) := List.getElem?_eq_getElem (by omega)
      obtain ⟨ob', h5, h6⟩ := hc i _ hx
      rw [hob] at h5
      injection h5 with h5
      subst h5
      rw [hx, h6]
    · rename_i hi
      rw [List.getElem?_eq_none (by omega)]
/-- Append to own memory that is filled to its end. -/
theorem vapp_own (hs : 0 < sz) (hp : H1.get p = some (.own cs)) (hc : cs.length = n * sz) (hx : Sl H1 x sz k ds) (hb : (n + k) * bytes ≤ 140737488355328) :
    (k = 0 ∧ vapp H1 sz bytes (.slice (some ⟨p, 0, none⟩) n sz) x = some (.slice (some ⟨p, 0, none⟩) n sz, H1)) ∨ (0 < k ∧ vapp H1 sz bytes (.slice (some ⟨p, 0, none⟩) n sz) x = some (.slice (some ⟨H1.nxt, 0, none⟩) (n + k) sz, H1.moved p (cs ++ ds))) := by
  rcases hx.2 with ⟨rfl, rfl⟩ | ⟨j, o, rfl, hj, _⟩
  · exact .inl ⟨rfl, rfl⟩
  · rcases Nat.eq_zero_or_pos k with rfl | hk
    · exact .inl ⟨rfl, by cases sz <;> rfl⟩
    · obtain ⟨ob, hob, hfit, hseg⟩ := hx.seg (Nat.mul_pos hk hs)
      refine .inr ⟨hk, ?_⟩
      have e : vapp H1 sz bytes (.slice (some ⟨p, 0, none⟩) n sz) (.slice (some ⟨j, o, none⟩) k sz) = (if k = 0 then some (.slice (some ⟨p, 0, none⟩) n sz, H1) else match H1.get j with
          | some ob => if sz = sz ∧ o + k * sz ≤ ob.cells.length then
              (match H1.get p with
                | some (.own cs) => if sz = sz ∧ 0 + n * sz ≤ cs.length ∧ (n + k) * bytes ≤ 140737488355328 then some (.slice (some ⟨H1.nxt, 0, none⟩) (n + k) sz, H1.moved p ((cs.drop 0).take (n * sz) ++ (ob.cells.drop o).take (k * sz))) else none
                | _ => none)
            else none
          | none => none) := by
        cases k with
        | zero => omega
        | succ n => rfl
      rw [if_neg (by omega), hob, hp] at e
      simp only [true_and] at e
      rw [if_pos hfit, if_pos ⟨by omega, hb⟩, hseg, List.drop_zero, ← hc, List.take_length] at e
      exact e
end
/-- Where a slice's cells lie. -/
def blk (v : Value) : Nat := match v with
  | .slice (some ⟨b, _, none⟩) _ _ => b
  | _ => 0
theorem Sl.trL {H : Heap} {v : Value} {sz n i o ix : Nat} {cs : List Value} (h : Sl H v sz n cs) (hi : i < n) : trL ix (adr v i sz o) = [.L ix (blk v)] := by
  obtain ⟨b, o', rfl, _⟩ := h.some_ hi
  rfl
theorem Sl.blk_lt {H : Heap} {v : Value} {sz n i : Nat} {cs : List Value} (h : Sl H v sz n cs) (hi : i < n) : blk v < H.nxt := by
  obtain ⟨b, o', rfl, hb, _⟩ := h.some_ hi
  exact hb
/-- A new slice of flat data, from its block's beginning to its end. -/
def NewF {α : Type} (f : α → List Value) (n : Nat) (H H' : Heap) (v : Value) (xs : List α) : Prop := ∃ p, H.nxt ≤ p ∧ p < H'.nxt ∧ v = .slice (some ⟨p, 0, none⟩) xs.length n ∧ H'.get p = some (.own (fcells f xs))
section
variable {α : Type} {f : α → List Value} {n bytes : Nat} {H0 H1 H2 : Heap} {v w : Value} {xs ys : List α} {y : α}
theorem NewF.sl (hl : ∀ a, (f a).length = n) (h : NewF f n H0 H1 v xs) : Sl H1 v n xs.length (fcells f xs) := by
  obtain ⟨p, _, h1, rfl, h2⟩ := h
  exact sl_own h1 h2 (fcells_len hl xs)
theorem NewF.keep (h : NewF f n H0 H1 v xs) (kp : Keep H1 H2) : NewF f n H0 H2 v xs := by
  obtain ⟨p, h1, h2, h3, h4⟩ := h
  exact ⟨p, h1, Nat.lt_of_lt_of_le h2 kp.nxt, h3, by rw [kp.get p h2]; exact h4⟩
theorem NewF.new (hk : Keep H0 H1) : NewF f n H0 (H1.push []) (.slice (some ⟨H1.nxt, 0, none⟩) 0 n) [] := ⟨H1.nxt, hk.nxt, by rw [Zbg]; omega, rfl, by rw [push_get', if_pos rfl]; rfl⟩
theorem NewF.own {hl : ∀ a, (f a).length = n} {m : α → Nat → α × Nat} (h : NewF f n H0 H1 v xs) : ∃ F, (rSlc (flatRep f n hl m)).own H1 [v] xs F ∧ Fresh H0 H1 F := by
  obtain ⟨p, h1, h2, rfl, h4⟩ := h
  exact ⟨[p], flat_own0 h2 h4, by simp, by intro i hi; simp at hi; omega⟩
/-- What an append leaves alone, and where its outcome lies. -/
def Apart (H1 H2 : Heap) (v u : Value) : Prop := (∀ j, j < H1.nxt → j ≠ blk v → H2.get j = H1.get j) ∧ (blk u = blk v ∨ H1.nxt ≤ blk u)
theorem NewF.app2 (hl : ∀ a, (f a).length = n) (hn : 0 < n) (h : NewF f n H0 H1 v xs) (hx : Sl H1 w n ys.length (fcells f ys)) (hb : (xs.length + ys.length) * bytes ≤ 140737488355328) :
    ∃ u H2, vapp H1 n bytes v w = some (u, H2) ∧ NewF f n H0 H2 u (xs ++ ys) ∧ (∀ H, H.nxt ≤ H0.nxt → Keep H H1 → Keep H H2) ∧ H1.nxt ≤ H2.nxt ∧ Apart H1 H2 v u := by
  obtain ⟨p, h1, h2, rfl, h4⟩ := h
  rcases vapp_own hn h4 (fcells_len hl xs) hx hb with ⟨h5, e⟩ | ⟨h5, e⟩
  · obtain rfl : ys = [] := List.eq_nil_of_length_eq_zero h5
    exact ⟨_, _, e, ⟨p, h1, h2, by simp, by simpa using h4⟩, fun _ _ hk => hk, Nat.le_refl _, fun _ _ _ => rfl, .inl rfl⟩
  · refine ⟨_, _, e, ⟨H1.nxt, by omega, by rw [Zbj]; omega, by simp, by rw [Zbk, if_pos rfl, fcells_app]⟩, fun H hH hk => hk.moved' (by omega), by rw [Zbj]; omega, fun j hj hne => ?_, .inr (Nat.le_refl _)⟩
    have hne' : j ≠ p := hne
    rw [Zbk, if_neg (by omega), if_neg hne']
theorem NewF.app (hl : ∀ a, (f a).length = n) (hn : 0 < n) (h : NewF f n H0 H1 v xs) (hx : Sl H1 w n ys.length (fcells f ys)) (hb : (xs.length + ys.length) * bytes ≤ 140737488355328) :
    ∃ u H2, vapp H1 n bytes v w = some (u, H2) ∧ NewF f n H0 H2 u (xs ++ ys) ∧ (∀ H, H.nxt ≤ H0.nxt → Keep H H1 → Keep H H2) ∧ H1.nxt ≤ H2.nxt := by
  obtain ⟨u, H2, h1, h2, h3, h4, _⟩ := NewF.app2 hl hn h hx hb
  exact ⟨u, H2, h1, h2, h3, h4⟩
theorem NewF.one (hl : ∀ a, (f a).length = n) (hn : 0 < n) (h : NewF f n H0 H1 v xs) (hb : (xs.length + 1) * bytes ≤ 140737488355328) :
    ∃ u H2, vapp (H1.push (f y)) n bytes v (.slice (some ⟨H1.nxt, 0, none⟩) 1 n) = some (u, H2) ∧ NewF f n H0 H2 u (xs ++ [y]) ∧ (∀ H, H.nxt ≤ H0.nxt → Keep H H1 → Keep H H2) ∧ H1.nxt ≤ H2.nxt := by
  have h' := h.keep (Keep.push H1 (f y))
  have hx : Sl (H1.push (f y)) (.slice (some ⟨H1.nxt, 0, none⟩) 1 n) n [y].length (fcells f [y]) := sl_own (by rw [Zbg]; omega) (by rw [push_get', if_pos rfl]; simp [fcells]) (by simp [fcells, hl])
  obtain ⟨u, H2, e, h2, h3, h4⟩ := NewF.app hl hn h' hx hb
  exact ⟨u, H2, e, h2, fun H hH hk => h3 H hH hk.push', by rw [Zbg] at h4; omega⟩
theorem NewF.many2 (hl : ∀ a, (f a).length = n) (hn : 0 < n) (h : NewF f n H0 H1 v xs) (hb : (xs.length + ys.length) * bytes ≤ 140737488355328) :
    ∃ u H2, vapp (H1.push (fcells f ys)) n bytes v (.slice (some ⟨H1.nxt, 0, none⟩) ys.length n) = some (u, H2) ∧ NewF f n H0 H2 u (xs ++ ys) ∧ (∀ H, H.nxt ≤ H0.nxt → Keep H H1 → Keep H H2) ∧ H1.nxt ≤ H2.nxt ∧ Apart H1 H2 v u := by
  have h' := h.keep (Keep.push H1 (fcells f ys))
  have hx : Sl (H1.push (fcells f ys)) (.slice (some ⟨H1.nxt, 0, none⟩) ys.length n) n ys.length (fcells f ys) := sl_own (by rw [Zbg]; omega) (by rw [push_get', if_pos rfl]) (fcells_len hl ys)
  obtain ⟨u, H2, e, h2, h3, h4, h5, h6⟩ := NewF.app2 hl hn h' hx hb
  rw [Zbg] at h4 h5 h6
  refine ⟨u, H2, e, h2, fun H hH hk => h3 H hH hk.push', by omega, fun j hj hne => ?_, ?_⟩
  · rw [h5 j (by omega) hne, push_get', if_neg (by omega)]
  · rcases h6 with h6 | h6
    · exact .inl h6
    · exact .inr (by omega)
theorem NewF.one2 (hl : ∀ a, (f a).length = n) (hn : 0 < n) (h : NewF f n H0 H1 v xs) (hb : (xs.length + 1) * bytes ≤ 140737488355328) :
    ∃ u H2, vapp (H1.push (f y)) n bytes v (.slice (some ⟨H1.nxt, 0, none⟩) 1 n) = some (u, H2) ∧ NewF f n H0 H2 u (xs ++ [y]) ∧ (∀ H, H.nxt ≤ H0.nxt → Keep H H1 → Keep H H2) ∧ H1.nxt ≤ H2.nxt ∧ Apart H1 H2 v u := by
  have := NewF.many2 (ys := [y]) (bytes := bytes) hl hn h hb
  rwa [fcells_cons, show fcells f ([] : List α) = [] from rfl, List.append_nil] at this
theorem Sl.agree {H H' : Heap} {v : Value} {sz n : Nat} {cs : List Value} (h : Sl H v sz n cs) (hn : H.nxt ≤ H'.nxt) (hg : H'.get (blk v) = H.get (blk v)) : Sl H' v sz n cs := by
  refine ⟨h.1, ?_⟩
  rcases h.2 with h | ⟨i, o, rfl, hi, hc⟩
  · exact .inl h
  · exact .inr ⟨i, o, rfl, Nat.lt_of_lt_of_le hi hn, fun j c hj => by
      obtain ⟨ob, h1, h2⟩ := hc j c hj
      exact ⟨ob, by rw [← h1]; exact hg, h2⟩⟩
/-- A whole element, stored. -/
theorem stO_elem {p i : Nat} {x : Value} (hl : ∀ a, (f a).length = n) (hx : noTup x = true) (hv : vcells x = f y) (hi : i < xs.length) : stO H1 n p (i * n) x (some (.own (fcells f xs))) = some (undef, H1.set p (fcells f (xs.set i y))) := by
  have hlen := fcells_len hl xs
  have h1 : (i + 1) * n ≤ xs.length * n := Nat.mul_le_mul_right _ hi
  rw [Nat.add_mul, Nat.one_mul] at h1
  rw [stO_own, hv, if_pos ⟨hx, hl y, by omega⟩]
  congr 3
  have e1 : xs = xs.take i ++ xs[i] :: xs.drop (i + 1) := by rw [← List.drop_eq_getElem_cons hi, List.take_append_drop]
  have e2 : fcells f xs = fcells f (xs.take i) ++ (f xs[i] ++ fcells f (xs.drop (i + 1))) := by
    conv => lhs; rw [e1]
    rw [fcells_app, fcells_cons]
  have e3 : xs.set i y = xs.take i ++ y :: xs.drop (i + 1) := by
    rw [List.set_eq_take_append_cons_drop, if_pos hi]
  have e4 : (fcells f (xs.take i)).length = i * n := by rw [fcells_len hl, List.length_take, Nat.min_eq_left (by omega)]
  rw [e3, fcells_app, fcells_cons]
  unfold wr
  rw [e2, hl y, List.take_append_of_le_length (by omega), List.take_of_length_le (by omega), List.append_assoc]
  congr 2
  rw [List.drop_append, List.drop_of_length_le (by omega), List.nil_append, e4, Nat.add_sub_cancel_left, List.drop_append, List.drop_of_length_le (by rw [hl]; omega), List.nil_append, hl, Nat.sub_self, List.drop_zero]
/-- A store of a whole element into a new slice. -/
theorem NewF.st {i : Nat} {x : Value} (hl : ∀ a, (f a).length = n) (h : NewF f n H0 H1 v xs) (hx : noTup x = true) (hv : vcells x = f y) (hi : i < xs.length) :
    ∃ H2, vst H1 n x (adr v i n 0) = some (undef, H2) ∧ NewF f n H0 H2 v (xs.set i y) ∧ (∀ H, H.nxt ≤ H0.nxt → Keep H H1 → Keep H H2) ∧ H2.nxt = H1.nxt ∧ ∀ j, j < H0.nxt → H2.get j = H1.get j := by
  obtain ⟨p, h1, h2, rfl, h4⟩ := h
  refine ⟨H1.set p (fcells f (xs.set i y)), ?_, ⟨p, h1, by rw [Zbh]; exact h2, by rw [List.length_set], by rw [Zbi, if_pos rfl]⟩, fun H hH hk => hk.set' (by omega), by rw [Zbh], fun j hj => by rw [Zbi, if_neg (by omega)]⟩
  simp only [adr, Zcq, h4]
  rw [show 0 + i * n + 0 = i * n by omega]
  exact stO_elem hl hx hv hi
end
end Go.Proofs.Ytjjglonmaajjoaa.AX
namespace Go.Proofs.Ytjjglonmaajjoaa.AX
open Go
set_option maxRecDepth 10000
set_option linter.unusedSimpArgs false
set_option linter.unusedVariables false
/-- A mark goes up by so much at most. -/
def MarB {α : Type} (r : Rep α) : Prop := ∀ (x : α) (k : Nat), (r.mar x k).2 ≤ k + 99 * (r.tot x + 1)
theorem mkL_le {α : Type} {r : Rep α} (h : MarB r) : ∀ (xs : List α) (k : Nat), (mkL r.mar xs k).2 ≤ k + 99 * (rSlc r).tot xs
  | [], k => Nat.le_add_right _ _
  | x :: xs, k => by
    have h1 := h x k
    have h2 := mkL_le h xs (r.mar x k).2
    have e : (rSlc r).tot (x :: xs) = (r.tot x + 1) + (rSlc r).tot xs := by simp only [rSlc, List.length_cons, List.map_cons, List.sum_cons]; omega
    rw [e]
    show (mkL r.mar xs (r.mar x k).2).2 ≤ _
    omega
theorem MarB.slc {α : Type} {r : Rep α} (h : MarB r) : MarB (rSlc r) := fun xs k => by
  have := mkL_le h xs k
  show (mkL r.mar xs k).2 ≤ _
  omega
/-- The same, with what is over said. -/
def MarC {α : Type} (r : Rep α) (c : Nat) : Prop := ∀ (x : α) (k : Nat), (r.mar x k).2 ≤ k + 99 * r.tot x + c
theorem MarB.of {α : Type} {r : Rep α} {c : Nat} (h : MarC r c) (hc : c ≤ 99) : MarB r := fun x k => by have := h x k; omega
theorem MarC.slc {α : Type} {r : Rep α} (h : MarB r) : MarC (rSlc r) 0 := fun xs k => mkL_le h xs k
theorem MarC.leaf {α : Type} {f : α → Value} {m : Nat → α} {hf : ∀ a, oneCell (f a) = true} : MarC (leafRep f m hf) 1 := fun x k => by show k + 1 ≤ _; omega
theorem slc_cell {α : Type} {r : Rep α} {H : Heap} {v : Value} {xs : List α} (h : (rSlc r).rd H [v] xs) : vcells v = [v] ∧ noTup v = true := (rSlc r).valc h
theorem MarB.int : MarB rInt := fun x k => by show k + 1 ≤ _; omega
theorem MarB.bool : MarB rBool := fun x k => by show k + 1 ≤ _; omega
/-! ### Cells in place -/
theorem row_get {cs row : List Value} {i sz o : Nat} {c : Value} (h : (cs.drop (i * sz)).take sz = row) (ho : o < sz) (hc : row[o]? = some c) : cs[i * sz + o]? = some c := by
  rw [← h, List.getElem?_take_of_lt ho, List.getElem?_drop] at hc
  exact hc
end Go.Proofs.Ytjjglonmaajjoaa.AX
namespace Go.Proofs.Ytjjglonmaajjoaa.AX
open Go
set_option maxRecDepth 10000
set_option linter.unusedSimpArgs false
set_option linter.unusedVariables false
def Fix (T T' : Tm) : List Nat → Prop
  | [] => True
  | c :: cs => T' c = T c ∧ Fix T T' cs
theorem fix_nil {T T' : Tm} : Fix T T' [] = True := nofl rfl
theorem fix_cons {T T' : Tm} {c : Nat} {cs : List Nat} : Fix T T' (c :: cs) = (T' c = T c ∧ Fix T T' cs) := nofl rfl
theorem Fix.refl (T : Tm) : ∀ cs, Fix T T cs
  | [] => trivial
  | c :: cs => ⟨rfl, Fix.refl T cs⟩
theorem Fix.trans {T T' T'' : Tm} : ∀ {cs}, Fix T T' cs → Fix T' T'' cs → Fix T T'' cs
  | [], _, _ => trivial
  | c :: cs, h, h' => ⟨h'.1.trans h.1, h.2.trans h'.2⟩
section
variable {C : CallRel} {ks : List Fr} {Q : XE → Tm → Heap → Prop} {T : Tm} {H : Heap}
theorem G_forF {a : X} (cs : List Nat) (n : Nat) (I : Nat → Tm → Heap → Prop) (i0 : Nat) (hi : i0 ≤ n) (h0 : I i0 T H) (hs : ∀ i T1 H1, i ≤ n → Fix T T1 cs → I i T1 H1 → G C a (.inv (fun T' H' => i < n ∧ Fix T1 T' cs ∧ I (i + 1) T' H') :: ks) Q T1 H1) : G C (.loop a) ks Q T H := by
  refine G_for n (fun i T1 H1 => Fix T T1 cs ∧ I i T1 H1) i0 hi ⟨Fix.refl _ _, h0⟩ ?_
  rintro i T1 H1 hi1 ⟨f1, i1⟩
  refine W.imp (fun _ _ _ _ _ h => h) a (fun e T' H' h3 => ?_) (hs i T1 H1 hi1 f1 i1)
  cases e with
  | nrm =>
    obtain ⟨h4, h5, h6⟩ := h3
    exact ⟨h4, f1.trans h5, h6⟩
  | ex i => exact h3
  | rt => exact h3
theorem G_loopF {a : X} (cs : List Nat) (k : Nat) (I : Nat → Tm → Heap → Prop) (h0 : I k T H) (hs : ∀ k T1 H1, Fix T T1 cs → I k T1 H1 → G C a (.inv (fun T' H' => ∃ j, j < k ∧ Fix T1 T' cs ∧ I j T' H') :: ks) Q T1 H1) : G C (.loop a) ks Q T H := by
  refine G_loop (fun k T1 H1 => Fix T T1 cs ∧ I k T1 H1) k ⟨Fix.refl _ _, h0⟩ ?_
  rintro k T1 H1 ⟨f1, i1⟩
  refine W.imp (fun _ _ _ _ _ h => h) a (fun e T' H' h3 => ?_) (hs k T1 H1 f1 i1)
  cases e with
  | nrm =>
    obtain ⟨j, h4, h5, h6⟩ := h3
    exact ⟨j, h4, f1.trans h5, h6⟩
  | ex i => exact h3
  | rt => exact h3
end
theorem GO_call_eq {P : Program} {d : Option Nat} {f : FuncId} {args : List XArg} {vs : List Value} {os : List XO} {ks : List Fr} {Q : XE → Tm → Heap → Prop} {T : Tm} {H : Heap} (e : args.map (ev T) = vs) (h : Run P f vs H fun v H' => GO (CR P) os ks Q (put T d v) H') : GO (CR P) (⟨d, .call f args, none⟩ :: os) ks Q T H := by
  subst e
  exact GO_call h
/-! ### Ways that meet: what is to come is shown once -/
section
variable {C : CallRel} {ks : List Fr} {Q : XE → Tm → Heap → Prop} {T : Tm} {H : Heap}
theorem G_fix (cs : List Nat) {a : X} (h : ∀ T', Fix T T' cs → G C a ks Q T' H) : G C a ks Q T H := h T (Fix.refl _ _)
theorem GO_fix (cs : List Nat) {os : List XO} (h : ∀ T', Fix T T' cs → GO C os ks Q T' H) : GO C os ks Q T H := h T (Fix.refl _ _)
theorem cK_fix (cs : List Nat) {v : Value} {a b : X} (h : ∀ T', Fix T T' cs → cK C v a b ks Q T' H) : cK C v a b ks Q T H := h T (Fix.refl _ _)
theorem kont_cut {I : Tm → Heap → Prop} {rest : X} (h2 : ∀ T' H', I T' H' → G C rest ks Q T' H') : ∀ (e : XE) (T : Tm) (H : Heap), kont C Q (.inv I :: ks) e T H → kont C Q (.seq rest :: ks) e T H := by
  intro e T H h
  cases e with
  | nrm => exact h2 _ _ h
  | ex i => exact h
  | rt => exact h
theorem G_cut {a rest : X} (I : Tm → Heap → Prop) (h1 : G C a (.inv I :: ks) Q T H) (h2 : ∀ T' H', I T' H' → G C rest ks Q T' H') : G C a (.seq rest :: ks) Q T H :=
  W.imp (fun _ _ _ _ _ h => h) a (kont_cut h2) h1
theorem cK_cut {v : Value} {a b rest : X} (I : Tm → Heap → Prop) (h1 : cK C v a b (.inv I :: ks) Q T H) (h2 : ∀ T' H', I T' H' → G C rest ks Q T' H') : cK C v a b (.seq rest :: ks) Q T H := by
  cases v with
  | bool t =>
    cases t with
    | true => rw [Zah] at h1 ⊢; exact G_cut I h1 h2
    | false => rw [Zai] at h1 ⊢; exact G_cut I h1 h2
  | _ => exact h1.elim
theorem GO_cut {os : List XO} {rest : X} (I : Tm → Heap → Prop) (h1 : GO C os (.inv I :: ks) Q T H) (h2 : ∀ T' H', I T' H' → G C rest ks Q T' H') : GO C os (.seq rest :: ks) Q T H :=
  Wops.imp (fun _ _ _ _ _ h => h) (fun T' H' h => kont_cut h2 .nrm T' H' h) h1
end
section
variable {α : Type} {r : Rep α} {H H1 : Heap} {v : Value} {xs : List α} {i sz : Nat}
theorem take_snoc {α : Type} (l : List α) (d : α) {i : Nat} (h : i < l.length) : l.take (i + 1) = l.take i ++ [l.getD i d] := by
  rw [List.take_add_one]
  simp [List.getElem?_eq_getElem h, List.getD]
theorem getD_get {α : Type} (l : List α) (d : α) {i : Nat} (h : i < l.length) : l.getD i d = l[i] := by simp [List.getD, List.getElem?_eq_getElem h]
theorem slc_sl (hz : r.sz = sz) (h : (rSlc r).rd H [v] xs) : ∃ cs, Sl H v sz xs.length cs := by
  obtain ⟨w, rows, e, h1, _⟩ := h
  obtain rfl : v = w := by simpa using e
  exact ⟨_, by rw [← hz]; exact h1⟩
theorem slc_idx (hz : r.sz = sz) (h : (rSlc r).rd H [v] xs) (hi : i < xs.length) {k : IntKind} : vidx H1 sz v (.int k (i : Int)) = some (adr v i sz 0, H1) := by
  obtain ⟨cs, h1⟩ := slc_sl hz h
  exact h1.idx hi
theorem slc_fad {o off : Nat} (hz : r.sz = sz) (h : (rSlc r).rd H [v] xs) (hi : i < xs.length) : vfad H1 off (adr v i sz o) = some (adr v i sz (o + off), H1) := by
  obtain ⟨cs, h1⟩ := slc_sl hz h
  exact h1.fad hi
theorem slc_trL {ix o : Nat} (hz : r.sz = sz) (h : (rSlc r).rd H [v] xs) (hi : i < xs.length) : trL ix (adr v i sz o) = [.L ix (blk v)] := by
  obtain ⟨cs, h1⟩ := slc_sl hz h
  exact h1.trL hi
theorem slc_blk (h : (rSlc r).rd H [v] xs) (hi : i < xs.length) : blk v < H.nxt := by
  obtain ⟨cs, h1⟩ := slc_sl rfl h
  exact h1.blk_lt hi
/-- An element of a slice. -/
theorem slc_el (hz : r.sz = sz) (h0 : 0 < sz) (h : (rSlc r).rd H [v] xs) (hi : i < xs.length) : ∃ row, r.rd H row xs[i] ∧ row.length = sz ∧ vldN H sz (adr v i sz 0) = some (.agg row.toArray, H) ∧ ∀ o c, row[o]? = some c → vld1 H (adr v i sz o) = some (c, H) := by
  obtain ⟨w, rows, e, h1, hr⟩ := h
  obtain rfl : v = w := by simpa using e
  obtain ⟨row, h2, h3⟩ := rows_get hr hi
  have hrow := flat_row hr.sz h2
  rw [hz] at hrow h1
  have hl : row.length = sz := by rw [r.len h3, hz]
  refine ⟨row, h3, hl, ?_, fun o c hc => ?_⟩
  · have := Sl.ldN (o := 0) (m := sz) h1 hi h0 (by omega)
    rwa [Nat.add_zero, hrow] at this
  · refine Sl.ld h1 hi ?_
    have ho := (List.getElem?_eq_some_iff.1 hc).1
    exact row_get hrow (by omega) hc
theorem ints_of {H : Heap} {v : Value} {xs : List Int} (h : (rSlc rInt).rd H [v] xs) : Ints H v xs := by
  obtain ⟨w, e, h1⟩ := leaf_rd h
  obtain rfl : v = w := by simpa using e
  exact h1
end
theorem GD_app {C : CallRel} {pre : List (List Nat)} {ix : Nat} {d : Option Nat} {os : List XO} {tr : List Tr} {ks : List Fr} {Q : XE → Tm → Heap → Prop} {T : Tm} {H : Heap} {sz bytes : Nat} {s x : XArg} : GD C pre ix (⟨d, (.app sz bytes s x), none⟩ :: os) tr ks Q T H = dK C pre ix d (.app sz bytes s x) os tr ks Q T H (vapp H sz bytes (ev T s) (ev T x)) := by rw [GD_op rfl, step_app]
/-! ### New slices of numbers -/
def fZ (k : IntKind) (z : Int) : List Value := [.int k z]
theorem fZ_len (k : IntKind) (z : Int) : (fZ k z).length = 1 := rfl
theorem fcZ (k : IntKind) (xs : List Int) : fcells (fZ k) xs = xs.map (Value.int k) := by
  induction xs with
  | nil => rfl
  | cons x xs ih => rw [fcells_cons, ih]; rfl
abbrev NewI := NewF (fZ .i64) 1
theorem NewF.intsK {k : IntKind} {H H' : Heap} {v : Value} {xs : List Int} (h : NewF (fZ k) 1 H H' v xs) : IntsK k H' v xs := by
  have := h.sl (fZ_len k)
  rwa [fcZ] at this
theorem tot_len {α : Type} {r : Rep α} {xs : List α} {m : Nat} (h : (rSlc r).tot xs ≤ m) : xs.length ≤ m := Nat.le_trans (Nat.le_add_right _ _) h
def OwnS {α : Type} (r : Rep α) (H H' : Heap) (v : Value) (ys : List α) : Prop := ∃ F, (rSlc r).own H' [v] ys F ∧ Fresh H H' F
theorem NewF.ownI {H H' : Heap} {v : Value} {xs : List Int} (h : NewI H H' v xs) : OwnS rInt H H' v xs := by
  obtain ⟨p, h1, h2, rfl, h4⟩ := h
  rw [fcZ] at h4
  exact ⟨[p], leaf_own0 h2 h4, by simp, by intro i hi; simp at hi; omega⟩
theorem own_nil {α : Type} {r : Rep α} {H H' : Heap} : OwnS r H H' (.slice none 0 0) [] := ⟨[], .inl ⟨rfl, rfl, rfl⟩, by simp, by simp⟩
theorem OwnS.rd {α : Type} {r : Rep α} {H H' : Heap} {v : Value} {ys : List α} (h : OwnS r H H' v ys) : (rSlc r).rd H' [v] ys := by
  obtain ⟨F, h, _⟩ := h
  exact (rSlc r).ownrd h
theorem OwnS.keep {α : Type} {r : Rep α} {H H' H2 : Heap} {v : Value} {ys : List α} (h : OwnS r H H' v ys) (k : Keep H' H2) : OwnS r H H2 v ys := by
  obtain ⟨F, h, f1, f2⟩ := h
  exact ⟨F, (rSlc r).ownKeep h k, f1, fun i hi => by have := f2 i hi; have := k.nxt; omega⟩
theorem OwnS.base {α : Type} {r : Rep α} {H H' H0 : Heap} {v : Value} {ys : List α} (h : OwnS r H H' v ys) (hn : H0.nxt ≤ H.nxt) : OwnS r H0 H' v ys := by
  obtain ⟨F, h, f1, f2⟩ := h
  exact ⟨F, h, f1, fun i hi => by have := f2 i hi; omega⟩
theorem NewF.base {α : Type} {f : α → List Value} {n : Nat} {H H' H0 : Heap} {v : Value} {ys : List α} (h : NewF f n H H' v ys) (hn : H0.nxt ≤ H.nxt) : NewF f n H0 H' v ys := by
  obtain ⟨p, h1, h2⟩ := h
  exact ⟨p, by omega, h2⟩
end Go.Proofs.Ytjjglonmaajjoaa.AX
namespace Go.Proofs.Ytjjglonmaajjoaa.AX
open Go
set_option maxRecDepth 10000
set_option linter.unusedSimpArgs false
set_option linter.unusedVariables false
section
variable {α : Type} {r : Rep α} {H H' : Heap} {v : Value} {xs : List α} {F : List Nat} {i sz : Nat}
/-- A new own slice out of rows. -/
theorem own_push {rows : List (List Value)} {Fs : List (List Nat)} (hr : ownRows r H rows xs Fs) : (rSlc r).own (H.push rows.flatten) [.slice (some ⟨H.nxt, 0, none⟩) xs.length r.sz] xs (H.nxt :: Fs.flatten) :=
  .inr ⟨H.nxt, 0, [], rows, [], Fs, rfl, by rw [Zbg]; omega, by rw [push_get', if_pos rfl]; simp [mid], rfl, hr.keep (by rw [Zbg]; omega) (fun a ha => by have := hr.lt a ha; rw [push_get', if_neg (by omega)]), rfl⟩
/-- One more element behind those that are there. -/
theorem own_app {bytes : Nat} (hz : r.sz = sz) (h0 : 0 < sz) (h : (rSlc r).own H [v] xs F) {row : List Value} {y : α} {G : List Nat} (hy : r.own H row y G) (hF : F.Nodup) (hG : G.Nodup) (hd : ∀ a ∈ G, a ∉ F) (hb : (xs.length + 1) * bytes ≤ 140737488355328) :
    ∃ u H' F', vapp (H.push row) sz bytes v (.slice (some ⟨H.nxt, 0, none⟩) 1 sz) = some (u, H') ∧ (rSlc r).own H' [u] (xs ++ [y]) F' ∧ Chg F H H' ∧ (∀ a ∈ F', a ∈ F ∨ a ∈ G ∨ H.nxt ≤ a ∧ a < H'.nxt) ∧ F'.Nodup ∧ ∀ a ∈ G, a ∈ F' := by
  have hrl : row.length = sz := by rw [← hz]; exact r.len (r.ownrd hy)
  have hx : Sl (H.push row) (.slice (some ⟨H.nxt, 0, none⟩) 1 sz) sz 1 row := sl_own (by rw [Zbg]; omega) (by rw [push_get', if_pos rfl]) (by rw [hrl, Nat.one_mul])
  obtain ⟨ob, hob, hfit, hseg⟩ := hx.seg (by omega)
  have hgr : (H.push row).get H.nxt = some (.own row) := by rw [push_get', if_pos rfl]
  rcases h with ⟨hv, rfl, rfl⟩ | ⟨p, o, pre, rows, post, Fs, hv, hp, hg, ho, hr, rfl⟩
  · obtain rfl : v = .slice none 0 0 := by simpa using hv
    have e : vapp (H.push row) sz bytes (.slice none 0 0) (.slice (some ⟨H.nxt, 0, none⟩) 1 sz) = some (.slice (some ⟨H.nxt + 1, 0, none⟩) 1 sz, (H.push row).push row) := by
      have e : vapp (H.push row) sz bytes (.slice none 0 0) (.slice (some ⟨H.nxt, 0, none⟩) 1 sz) = (match (H.push row).get H.nxt with
          | some ob => if sz = sz ∧ 0 + 1 * sz ≤ ob.cells.length then
              (if 1 * bytes ≤ 140737488355328 then some (.slice (some ⟨(H.push row).nxt, 0, none⟩) 1 sz, (H.push row).push ((ob.cells.drop 0).take (1 * sz))) else none)
            else none
          | none => none) := rfl
      rw [e, hgr]
      simp only [Obj.cells, true_and, List.drop_zero, Nat.one_mul, Nat.zero_add]
      rw [if_pos (by omega), if_pos (by simpa using hb), List.take_of_length_le (by omega)]
      rfl
    refine ⟨_, _, (H.nxt + 1) :: G, e, ?_, ⟨by simp only [Zbg]; omega, fun a ha _ => by rw [push_get', if_neg (by rw [Zbg]; omega), push_get', if_neg (by omega)]⟩, ?_, ?_, fun a ha => by simp [ha]⟩
    · have := own_push (r := r) (H := H.push row) (xs := [y]) (rows := [row]) (Fs := [G]) ⟨r.ownKeep hy (Keep.push _ _), trivial⟩
      simp only [List.flatten_cons, List.flatten_nil, List.append_nil, List.length_cons, List.length_nil, Zbg, hz] at this
      exact this
    · intro a ha
      simp only [List.mem_cons] at ha
      rcases ha with rfl | ha
      · exact .inr (.inr (by simp only [Zbg]; omega))
      · exact .inr (.inl ha)
    · exact List.nodup_cons.2 ⟨fun h => by have := r.ownlt hy _ h; omega, hG⟩
  · obtain rfl : v = .slice (some ⟨p, o, none⟩) xs.length r.sz := by simpa using hv
    subst hz
    have hgp : (H.push row).get p = some (.own (mid pre rows.flatten post)) := by rw [push_get', if_neg (by omega), hg]
    have hfr : rows.flatten.length = xs.length * r.sz := by rw [flatten_length hr.rd.sz, hr.len.1]
    have e : vapp (H.push row) r.sz bytes (.slice (some ⟨p, o, none⟩) xs.length r.sz) (.slice (some ⟨H.nxt, 0, none⟩) 1 r.sz) = some (.slice (some ⟨H.nxt + 1, 0, none⟩) (xs.length + 1) r.sz, (H.push row).moved p (rows.flatten ++ row)) := by
      have e : vapp (H.push row) r.sz bytes (.slice (some ⟨p, o, none⟩) xs.length r.sz) (.slice (some ⟨H.nxt, 0, none⟩) 1 r.sz) = (match (H.push row).get H.nxt with
          | some ob => if r.sz = r.sz ∧ 0 + 1 * r.sz ≤ ob.cells.length then
              (match (H.push row).get p with
                | some (.own cs) => if r.sz = r.sz ∧ o + xs.length * r.sz ≤ cs.length ∧ (xs.length + 1) * bytes ≤ 140737488355328 then some (.slice (some ⟨(H.push row).nxt, 0, none⟩) (xs.length + 1) r.sz, (H.push row).moved p ((cs.drop o).take (xs.length * r.sz) ++ (ob.cells.drop 0).take (1 * r.sz))) else none
                | _ => none)
            else none
          | none => none) := rfl
      rw [e, hgr, hgp]
      simp only [Obj.cells, true_and, List.drop_zero, Nat.one_mul, Nat.zero_add]
      rw [if_pos (by omega), if_pos ⟨by rw [mid_len, hfr, ho]; omega, hb⟩, List.take_of_length_le (l := row) (by omega)]
      congr 3
      have : (mid pre rows.flatten post).drop o = rows.flatten ++ post := by rw [mid, List.append_assoc, List.drop_append, List.drop_of_length_le (by omega), List.nil_append, ho, Nat.sub_self, List.drop_zero]
      rw [this, List.take_append_of_le_length (by omega), List.take_of_length_le (by omega)]
    obtain ⟨hp0, ndF⟩ := List.nodup_cons.1 hF
    have hlt := hr.lt
    have hltG := r.ownlt hy
    have hpG : p ∉ G := fun h => hd p h (by simp)
    refine ⟨_, _, (H.nxt + 1) :: (Fs ++ [G]).flatten, e, .inr ⟨H.nxt + 1, 0, [], rows ++ [row], [], Fs ++ [G], by rw [List.length_append]; rfl, by simp only [Zbj, Zbg]; omega, by rw [Zbk, Zbg, if_pos rfl]; simp [mid], rfl, ?_, rfl⟩, ⟨by simp only [Zbj, Zbg]; omega, fun a ha hF => ?_⟩, ?_, ?_, ?_⟩
    · refine ownRows_snoc (hr.keep (by simp only [Zbj, Zbg]; omega) fun a ha => ?_) (r.ownk hy (by simp only [Zbj, Zbg]; omega) fun a ha => ?_)
      · have := hlt a ha
        rw [Zbk, Zbg, if_neg (by omega), if_neg (fun h => hp0 (by rw [← h]; exact ha)), push_get', if_neg (by omega)]
      · have := hltG a ha
        rw [Zbk, Zbg, if_neg (by omega), if_neg (fun h => hpG (by rw [← h]; exact ha)), push_get', if_neg (by omega)]
    · rw [Zbk, Zbg, if_neg (by omega), if_neg (fun h => hF (by rw [h]; simp)), push_get', if_neg (by omega)]
    · intro a ha
      simp only [List.mem_cons, List.flatten_append, List.flatten_cons, List.flatten_nil, List.append_nil, List.mem_append] at ha ⊢
      rcases ha with rfl | ha | ha
      · exact .inr (.inr (by simp only [Zbj, Zbg]; omega))
      · exact .inl (.inr ha)
      · exact .inr (.inl ha)
    · simp only [List.flatten_append, List.flatten_cons, List.flatten_nil, List.append_nil]
      refine List.nodup_cons.2 ⟨fun h => ?_, List.nodup_append.2 ⟨ndF, hG, fun a ha b hb e => ?_⟩⟩
      · rcases List.mem_append.1 h with h | h
        · have := hlt _ h; omega
        · have := hltG _ h; omega
      · subst e
        exact hd a hb (by simp [ha])
    · intro a ha
      simp only [List.mem_cons, List.flatten_append, List.flatten_cons, List.flatten_nil, List.append_nil, List.mem_append]
      exact .inr (.inr ha)
theorem own_new : (rSlc r).own (H.push []) [.slice (some ⟨H.nxt, 0, none⟩) 0 r.sz] [] [H.nxt] := own_push (r := r) (H := H) (rows := []) (xs := []) (Fs := []) trivial
theorem own_new' (hz : r.sz = sz) : (rSlc r).own (H.push []) [.slice (some ⟨H.nxt, 0, none⟩) 0 sz] [] [H.nxt] := by rw [← hz]; exact own_new
end
end Go.Proofs.Ytjjglonmaajjoaa.AX
namespace Go.Proofs.Ytjjglonmaajjoaa.AX
open Go
set_option maxRecDepth 10000
set_option linter.unusedSimpArgs false
set_option linter.unusedVariables false
end Go.Proofs.Ytjjglonmaajjoaa.AX
