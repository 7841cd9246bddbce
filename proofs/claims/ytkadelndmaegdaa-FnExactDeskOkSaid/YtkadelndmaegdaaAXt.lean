/- Stepping the executor: code over a stack of what is to come, all of it data. No condition beyond each law's own; nothing of the program. -/
import Derived.Test.YtkadelndmaegdaaAXs
namespace Go.Proofs.Ytkadelndmaegdaa.AX
open Go

/-- So that an equation is used as one, and not by computing. -/
theorem nofl {α : Sort _} {a b : α} (h : a = b) : a = b := h
/-! ### A run that may come to several ends comes to one -/
theorem Wops.ex {C : CallRel} : ∀ {os : List XO} {K : Tm → Heap → Prop} {T : Tm} {H : Heap}, Wops C os K T H → ∃ T' H', K T' H' ∧ Wops C os (fun T1 H1 => T1 = T' ∧ H1 = H') T H
  | [], K, T, H, h => ⟨T, H, h, rfl, rfl⟩
  | o :: os, K, T, H, h => by
    simp only [Wops] at h ⊢
    by_cases hw : wanted T o.guard = true
    · rw [if_pos hw] at h
      obtain ⟨v, H1, h1, h2⟩ := h.ex
      obtain ⟨T', H', h3, h4⟩ := Wops.ex h2
      refine ⟨T', H', h3, ?_⟩
      rw [if_pos hw]
      exact h1.imp (fun _ _ _ _ _ h => h) (fun v0 H0 ⟨e1, e2⟩ => by subst e1; subst e2; exact h4)
    · rw [if_neg hw] at h
      obtain ⟨T', H', h3, h4⟩ := Wops.ex h
      refine ⟨T', H', h3, ?_⟩
      rw [if_neg hw]
      exact h4
theorem Dops.ex {C : CallRel} {pre : List (List Nat)} : ∀ {os : List XO} {i : Nat} {tr : List Tr} {K : Tm → Heap → Prop} {T : Tm} {H : Heap}, Dops C pre i os tr K T H → ∃ T' H', K T' H' ∧ Dops C pre i os tr (fun T1 H1 => T1 = T' ∧ H1 = H') T H
  | [], i, tr, K, T, H, h => ⟨T, H, h.2, h.1, rfl, rfl⟩
  | o :: os, i, tr, K, T, H, h => by
    simp only [Dops] at h ⊢
    by_cases hw : wanted T o.guard = true
    · rw [if_pos hw] at h
      obtain ⟨v, H1, h1, h2⟩ := h.ex
      obtain ⟨T', H', h3, h4⟩ := Dops.ex h2
      refine ⟨T', H', h3, ?_⟩
      rw [if_pos hw]
      exact h1.imp (fun _ _ _ _ _ h => h) (fun v0 H0 ⟨e1, e2⟩ => by subst e1; subst e2; exact h4)
    · rw [if_neg hw] at h
      obtain ⟨T', H', h3, h4⟩ := Dops.ex h
      refine ⟨T', H', h3, ?_⟩
      rw [if_neg hw]
      exact h4
def Same3 (e : XE) (T : Tm) (H : Heap) : XE → Tm → Heap → Prop := fun e1 T1 H1 => e1 = e ∧ T1 = T ∧ H1 = H
theorem W.ex {C : CallRel} : ∀ (c : X) {K : XE → Tm → Heap → Prop} {T : Tm} {H : Heap}, W C c K T H → ∃ e T' H', K e T' H' ∧ W C c (Same3 e T' H') T H
  | .skip, K, T, H, h => ⟨.nrm, T, H, h, rfl, rfl, rfl⟩
  | .reg os, K, T, H, h => by
    obtain ⟨T', H', h1, h2⟩ := Wops.ex h
    exact ⟨.nrm, T', H', h1, Wops.imp (fun _ _ _ _ _ h => h) (fun T1 H1 ⟨e1, e2⟩ => ⟨rfl, e1, e2⟩) h2⟩
  | .dreg pre os, K, T, H, h => by
    obtain ⟨T', H', h1, h2⟩ := Dops.ex h
    exact ⟨.nrm, T', H', h1, Dops.imp (fun _ _ _ _ _ h => h) (fun T1 H1 ⟨e1, e2⟩ => ⟨rfl, e1, e2⟩) h2⟩
  | .seq a b, K, T, H, h => by
    obtain ⟨e, T1, H1, h1, h2⟩ := W.ex a h
    cases e with
    | nrm =>
      obtain ⟨e2, T2, H2, h3, h4⟩ := W.ex b h1
      refine ⟨e2, T2, H2, h3, W.imp (fun _ _ _ _ _ h => h) a (fun e' T' H' h5 => ?_) h2⟩
      obtain ⟨rfl, rfl, rfl⟩ := h5
      exact h4
    | ex i =>
      refine ⟨.ex i, T1, H1, h1, W.imp (fun _ _ _ _ _ h => h) a (fun e' T' H' h5 => ?_) h2⟩
      obtain ⟨rfl, rfl, rfl⟩ := h5
      exact ⟨rfl, rfl, rfl⟩
    | rt =>
      refine ⟨.rt, T1, H1, h1, W.imp (fun _ _ _ _ _ h => h) a (fun e' T' H' h5 => ?_) h2⟩
      obtain ⟨rfl, rfl, rfl⟩ := h5
      exact ⟨rfl, rfl, rfl⟩
  | .cond x a b, K, T, H, h => by
    simp only [W, bcond] at h ⊢
    split at h
    · split at h
      · rename_i hb
        obtain ⟨e, T', H', h1, h2⟩ := W.ex a h
        exact ⟨e, T', H', h1, by rw [if_pos hb]; exact h2⟩
      · rename_i hb
        obtain ⟨e, T', H', h1, h2⟩ := W.ex b h
        exact ⟨e, T', H', h1, by rw [if_neg hb]; exact h2⟩
    · exact h.elim
  | .block id a, K, T, H, h => by
    obtain ⟨e, T1, H1, h1, h2⟩ := W.ex a h
    cases e with
    | nrm =>
      refine ⟨.nrm, T1, H1, h1, W.imp (fun _ _ _ _ _ h => h) a (fun e' T' H' h5 => ?_) h2⟩
      obtain ⟨rfl, rfl, rfl⟩ := h5
      exact ⟨rfl, rfl, rfl⟩
    | ex i =>
      simp only [inBlock] at h1
      by_cases hi : i = id
      · rw [if_pos hi] at h1
        refine ⟨.nrm, T1, H1, h1, W.imp (fun _ _ _ _ _ h => h) a (fun e' T' H' h5 => ?_) h2⟩
        obtain ⟨rfl, rfl, rfl⟩ := h5
        simp only [inBlock, if_pos hi]
        exact ⟨rfl, rfl, rfl⟩
      · rw [if_neg hi] at h1
        refine ⟨.ex i, T1, H1, h1, W.imp (fun _ _ _ _ _ h => h) a (fun e' T' H' h5 => ?_) h2⟩
        obtain ⟨rfl, rfl, rfl⟩ := h5
        simp only [inBlock, if_neg hi]
        exact ⟨rfl, rfl, rfl⟩
    | rt =>
      refine ⟨.rt, T1, H1, h1, W.imp (fun _ _ _ _ _ h => h) a (fun e' T' H' h5 => ?_) h2⟩
      obtain ⟨rfl, rfl, rfl⟩ := h5
      exact ⟨rfl, rfl, rfl⟩
  | .loop a, K, T, H, h => by
    obtain ⟨n, h⟩ := h
    have key : ∀ n T H, lp (W C a) K n T H → ∃ e T' H', K e T' H' ∧ lp (W C a) (Same3 e T' H') n T H := by
      intro n
      induction n with
      | zero => intro T H h; exact h.elim
      | succ n ih =>
        intro T H h
        obtain ⟨e, T1, H1, h1, h2⟩ := W.ex a h
        cases e with
        | nrm =>
          obtain ⟨e2, T2, H2, h3, h4⟩ := ih T1 H1 h1
          refine ⟨e2, T2, H2, h3, W.imp (fun _ _ _ _ _ h => h) a (fun e' T' H' h5 => ?_) h2⟩
          obtain ⟨rfl, rfl, rfl⟩ := h5
          exact h4
        | ex i =>
          refine ⟨.ex i, T1, H1, h1, W.imp (fun _ _ _ _ _ h => h) a (fun e' T' H' h5 => ?_) h2⟩
          obtain ⟨rfl, rfl, rfl⟩ := h5
          exact ⟨rfl, rfl, rfl⟩
        | rt =>
          refine ⟨.rt, T1, H1, h1, W.imp (fun _ _ _ _ _ h => h) a (fun e' T' H' h5 => ?_) h2⟩
          obtain ⟨rfl, rfl, rfl⟩ := h5
          exact ⟨rfl, rfl, rfl⟩
    obtain ⟨e, T', H', h1, h2⟩ := key n T H h
    exact ⟨e, T', H', h1, n, h2⟩
  | .exit id, K, T, H, h => ⟨.ex id, T, H, h, rfl, rfl, rfl⟩
  | .ret, K, T, H, h => ⟨.rt, T, H, h, rfl, rfl, rfl⟩
/-- A call comes to an end of which R holds. -/
def Run (P : Program) (f : FuncId) (xs : List Value) (H : Heap) (R : Value → Heap → Prop) : Prop := ∃ v H', CR P f xs H v H' ∧ R v H'
theorem Run.mono {P : Program} {f : FuncId} {xs : List Value} {H : Heap} {R R' : Value → Heap → Prop} (h : Run P f xs H R) (hi : ∀ v H', R v H' → R' v H') : Run P f xs H R' := by
  obtain ⟨v, H', h1, h2⟩ := h
  exact ⟨v, H', h1, hi _ _ h2⟩
/-! ### Code over a stack -/
inductive Fr where
  | seq (b : X)
  | blk (id : Nat)
  | inv (J : Tm → Heap → Prop)
def kont (C : CallRel) (Q : XE → Tm → Heap → Prop) : List Fr → XE → Tm → Heap → Prop
  | [] => Q
  | .seq b :: ks => then_ (W C b (kont C Q ks)) (kont C Q ks)
  | .blk id :: ks => inBlock id (kont C Q ks)
  | .inv J :: ks => then_ J (kont C Q ks)
def G (C : CallRel) (c : X) (ks : List Fr) (Q : XE → Tm → Heap → Prop) (T : Tm) (H : Heap) : Prop := W C c (kont C Q ks) T H
def GO (C : CallRel) (os : List XO) (ks : List Fr) (Q : XE → Tm → Heap → Prop) (T : Tm) (H : Heap) : Prop := Wops C os (kont C Q ks .nrm) T H
def GD (C : CallRel) (pre : List (List Nat)) (i : Nat) (os : List XO) (tr : List Tr) (ks : List Fr) (Q : XE → Tm → Heap → Prop) (T : Tm) (H : Heap) : Prop := Dops C pre i os tr (kont C Q ks .nrm) T H
def GX (C : CallRel) (e : XE) (ks : List Fr) (Q : XE → Tm → Heap → Prop) (T : Tm) (H : Heap) : Prop := kont C Q ks e T H
/-- What a function's end is asked. -/
def Fin (rs : List XRes) (R : Value → Heap → Prop) : XE → Tm → Heap → Prop := fun e T H => (match e with | .ex _ => False | _ => True) ∧ ∃ vs, resAll T H rs = some vs ∧ R (one_ vs) H
theorem Run.intro {P : Program} {f : FuncId} {F : XFun} (hF : cfun P f = some F) {xs : List Value} (ha : xs.length = F.args) {H : Heap} {R : Value → Heap → Prop} (h : G (CR P) F.body [] (Fin F.res R) (T0 xs) H) : Run P f xs H R := by
  obtain ⟨e, T', H', ⟨h1, vs, h2, h3⟩, h4⟩ := W.ex F.body h
  refine ⟨one_ vs, H', CR.intro hF ha (W.imp (fun _ _ _ _ _ h => h) F.body (fun e1 T1 H1 h5 => ?_) h4), h3⟩
  obtain ⟨rfl, rfl, rfl⟩ := h5
  exact ⟨h1, rfl, vs, h2, rfl⟩
section
variable {C : CallRel} {ks : List Fr} {Q : XE → Tm → Heap → Prop} {T : Tm} {H : Heap} {os : List XO} {d : Option Nat}
theorem Zaa : G C .skip ks Q T H = GX C .nrm ks Q T H := nofl rfl
theorem Zab {a b : X} : G C (.seq a b) ks Q T H = G C a (.seq b :: ks) Q T H := nofl rfl
theorem Zac : G C (.reg os) ks Q T H = GO C os ks Q T H := nofl rfl
theorem G_dreg {pre : List (List Nat)} : G C (.dreg pre os) ks Q T H = GD C pre 0 os [] ks Q T H := nofl rfl
theorem Zad {id : Nat} {a : X} : G C (.block id a) ks Q T H = G C a (.blk id :: ks) Q T H := nofl rfl
theorem Zae {id : Nat} : G C (.exit id) ks Q T H = GX C (.ex id) ks Q T H := nofl rfl
theorem Zaf : G C .ret ks Q T H = GX C .rt ks Q T H := nofl rfl
def cK (C : CallRel) (v : Value) (a b : X) (ks : List Fr) (Q : XE → Tm → Heap → Prop) (T : Tm) (H : Heap) : Prop := bcond v (G C a ks Q T H) (G C b ks Q T H)
theorem Zag {x : XArg} {a b : X} : G C (.cond x a b) ks Q T H = cK C (ev T x) a b ks Q T H := nofl rfl
theorem Zah {a b : X} : cK C (.bool true) a b ks Q T H = G C a ks Q T H := by simp [cK, bcond]
theorem Zai {a b : X} : cK C (.bool false) a b ks Q T H = G C b ks Q T H := by simp [cK, bcond]
/-- Both arms of a condition. -/
theorem cK_both {v : Bool} {a b : X} (h1 : v = true → G C a ks Q T H) (h2 : v = false → G C b ks Q T H) : cK C (.bool v) a b ks Q T H := by
  cases v
  · rw [Zai]; exact h2 rfl
  · rw [Zah]; exact h1 rfl
theorem Zaj {e : XE} : GX C e [] Q T H = Q e T H := nofl rfl
theorem Zak {b : X} : GX C .nrm (.seq b :: ks) Q T H = G C b ks Q T H := nofl rfl
theorem Zal {b : X} {i : Nat} : GX C (.ex i) (.seq b :: ks) Q T H = GX C (.ex i) ks Q T H := nofl rfl
theorem Zam {b : X} : GX C .rt (.seq b :: ks) Q T H = GX C .rt ks Q T H := nofl rfl
theorem Zan {id : Nat} : GX C .nrm (.blk id :: ks) Q T H = GX C .nrm ks Q T H := nofl rfl
theorem Zao {id : Nat} : GX C .rt (.blk id :: ks) Q T H = GX C .rt ks Q T H := nofl rfl
theorem Zap {id i : Nat} : GX C (.ex i) (.blk id :: ks) Q T H = if i = id then GX C .nrm ks Q T H else GX C (.ex i) ks Q T H := nofl rfl
theorem Zaq {J : Tm → Heap → Prop} : GX C .nrm (.inv J :: ks) Q T H = J T H := nofl rfl
theorem Zar {J : Tm → Heap → Prop} {i : Nat} : GX C (.ex i) (.inv J :: ks) Q T H = GX C (.ex i) ks Q T H := nofl rfl
theorem Zas {J : Tm → Heap → Prop} : GX C .rt (.inv J :: ks) Q T H = GX C .rt ks Q T H := nofl rfl
theorem Zat : GO C [] ks Q T H = GX C .nrm ks Q T H := nofl rfl
/-- What is to come behind an operation that yields r. -/
def oK (C : CallRel) (d : Option Nat) (os : List XO) (ks : List Fr) (Q : XE → Tm → Heap → Prop) (T : Tm) (r : Option (Value × Heap)) : Prop := match r with
  | some p => GO C os ks Q (put T d p.1) p.2
  | none => False
theorem Zau {v : Value} {H' : Heap} : oK C d os ks Q T (some (v, H')) = GO C os ks Q (put T d v) H' := nofl rfl
def isCall : XOp → Bool
  | .call .. | .calld .. => true
  | _ => false
theorem GO_op {op : XOp} (h : isCall op = false) : GO C (⟨d, op, none⟩ :: os) ks Q T H = oK C d os ks Q T (step T H op) := by
  cases op <;> simp only [isCall, reduceCtorEq] at h <;> simp only [GO, Wops, wanted, if_true, Op1, oK] <;> rfl
def gK (C : CallRel) (v : Value) (w : Bool) (d : Option Nat) (op : XOp) (os : List XO) (ks : List Fr) (Q : XE → Tm → Heap → Prop) (T : Tm) (H : Heap) : Prop :=
  if (match v with | .bool b => b == w | _ => false) = true then GO C (⟨d, op, none⟩ :: os) ks Q T H else GO C os ks Q (put T d undef) H
theorem Zav {op : XOp} {t : Nat} {w : Bool} : GO C (⟨d, op, some (t, w)⟩ :: os) ks Q T H = gK C (T t) w d op os ks Q T H := by
  simp only [GO, gK, Wops, wanted]
  rfl
theorem Zaw {op : XOp} : gK C (.bool true) true d op os ks Q T H = GO C (⟨d, op, none⟩ :: os) ks Q T H := by simp [gK]
theorem Zax {op : XOp} : gK C (.bool true) false d op os ks Q T H = GO C os ks Q (put T d undef) H := by simp [gK]
theorem Zay {op : XOp} : gK C (.bool false) true d op os ks Q T H = GO C os ks Q (put T d undef) H := by simp [gK]
theorem Zaz {op : XOp} : gK C (.bool false) false d op os ks Q T H = GO C (⟨d, op, none⟩ :: os) ks Q T H := by simp [gK]
theorem Zba {op : XOp} {w : Bool} : gK C undef w d op os ks Q T H = GO C os ks Q (put T d undef) H := by simp [gK, undef]
theorem gK_both {v w : Bool} {op : XOp} (h1 : v = w → GO C (⟨d, op, none⟩ :: os) ks Q T H) (h2 : v ≠ w → GO C os ks Q (put T d undef) H) : gK C (.bool v) w d op os ks Q T H := by
  unfold gK
  by_cases h : v = w
  · rw [if_pos (by simp [h])]; exact h1 h
  · rw [if_neg (by simp [h])]; exact h2 h
/-- A call. -/
theorem GO_call {P : Program} {f : FuncId} {xs : List XArg} (h : Run P f (xs.map (ev T)) H fun v H' => GO (CR P) os ks Q (put T d v) H') : GO (CR P) (⟨d, .call f xs, none⟩ :: os) ks Q T H := by
  obtain ⟨v, H', h1, h2⟩ := h
  exact ⟨v, H', h1, h2⟩
/-- A call of a closure. -/
theorem GO_calld {P : Program} {x : XArg} {f : FuncId} {cs : Array Value} {xs : List XArg} (e : ev T x = .func (.func f) #[] cs) (h : Run P f (xs.map (ev T) ++ cs.toList) H fun v H' => GO (CR P) os ks Q (put T d v) H') : GO (CR P) (⟨d, .calld x xs, none⟩ :: os) ks Q T H := by
  obtain ⟨v, H', h1, h2⟩ := h
  exact ⟨f, cs, e, v, H', h1, h2⟩
/-- A loop, by what holds ahead of each round, and a number that falls. -/
theorem G_loop {a : X} (I : Nat → Tm → Heap → Prop) (k : Nat) (h0 : I k T H) (hs : ∀ k T H, I k T H → G C a (.inv (fun T' H' => ∃ j, j < k ∧ I j T' H') :: ks) Q T H) : G C (.loop a) ks Q T H := by
  have mono : ∀ n T H, lp (W C a) (kont C Q ks) n T H → lp (W C a) (kont C Q ks) (n + 1) T H := by
    intro n
    induction n with
    | zero => intro T H h; exact h.elim
    | succ n ih =>
      intro T H h
      refine W.imp (fun _ _ _ _ _ h => h) a (fun e T' H' h1 => ?_) h
      cases e with
      | nrm => exact ih _ _ h1
      | ex i => exact h1
      | rt => exact h1
  have up : ∀ n m T H, n ≤ m → lp (W C a) (kont C Q ks) n T H → lp (W C a) (kont C Q ks) m T H := by
    intro n m T H h h1
    induction m with
    | zero => obtain rfl : n = 0 := (by omega); exact h1
    | succ m ih =>
      by_cases e : n = m + 1
      · subst e; exact h1
      · exact mono _ _ _ (ih (by omega))
  have key : ∀ k T H, I k T H → lp (W C a) (kont C Q ks) (k + 1) T H := by
    intro k
    induction k using Nat.strongRecOn with
    | _ k ih =>
      intro T H h
      refine W.imp (fun _ _ _ _ _ h => h) a (fun e T' H' h1 => ?_) (hs k T H h)
      cases e with
      | nrm =>
        obtain ⟨j, hj, h2⟩ := h1
        exact up (j + 1) k _ _ (by omega) (ih j hj _ _ h2)
      | ex i => exact h1
      | rt => exact h1
  exact ⟨k + 1, key k T H h0⟩
/-- A loop that counts up to n. -/
theorem G_for {a : X} (n : Nat) (I : Nat → Tm → Heap → Prop) (i0 : Nat) (hi : i0 ≤ n) (h0 : I i0 T H) (hs : ∀ i T H, i ≤ n → I i T H → G C a (.inv (fun T' H' => i < n ∧ I (i + 1) T' H') :: ks) Q T H) : G C (.loop a) ks Q T H := by
  refine G_loop (fun k T H => ∃ i, i + k = n ∧ I i T H) (n - i0) ⟨i0, by omega, h0⟩ ?_
  rintro k T H ⟨i, h1, h2⟩
  refine W.imp (fun _ _ _ _ _ h => h) a (fun e T' H' h3 => ?_) (hs i T H (by omega) h2)
  cases e with
  | nrm =>
    obtain ⟨h4, h5⟩ := h3
    exact ⟨k - 1, by omega, i + 1, by omega, h5⟩
  | ex i => exact h3
  | rt => exact h3
/-! ### Regions of open order without what could tell orders apart -/
def calm (os : List XO) : Bool := os.all fun o => !kindE o.op && !kindA o.op
theorem stable_L {pre : List (List Nat)} : ∀ {tr : List Tr}, (∀ t ∈ tr, ∃ i x, t = .L i x) → stable pre tr
  | [], _ => trivial
  | t :: tr, h => by
    obtain ⟨i, x, rfl⟩ := h t (by simp)
    refine ⟨?_, stable_L (fun t ht => h t (by simp [ht]))⟩
    have h' : ∀ u ∈ tr, ∃ i x, u = .L i x := fun t ht => h t (by simp [ht])
    clear h
    induction tr with
    | nil => trivial
    | cons u us ih =>
      obtain ⟨j, y, rfl⟩ := h' u (by simp)
      exact ⟨trivial, ih (fun t ht => h' t (by simp [ht]))⟩
theorem calm_dops {pre : List (List Nat)} : ∀ {os : List XO} {i : Nat} {tr : List Tr} {K : Tm → Heap → Prop} {T : Tm} {H : Heap}, calm os = true → (∀ t ∈ tr, ∃ i x, t = .L i x) → Wops C os K T H → Dops C pre i os tr K T H
  | [], i, tr, K, T, H, _, ht, h => ⟨stable_L ht, h⟩
  | o :: os, i, tr, K, T, H, hc, ht, h => by
    simp only [calm, List.all_cons, Bool.and_eq_true, Bool.not_eq_true'] at hc
    have hc' : calm os = true := by simp only [calm, List.all_eq_true, Bool.and_eq_true, Bool.not_eq_true']; simpa [List.all_eq_true] using hc.2
    simp only [Wops, Dops] at h ⊢
    split
    · rename_i hw
      rw [if_pos hw] at h
      have key : ∀ v H', Wops C os K (put T o.dst v) H' → Dops C pre (i + 1) os (trOf i T H H' o.op ++ tr) K (put T o.dst v) H' := fun v H' h1 => by
        refine calm_dops hc' (fun t ht' => ?_) h1
        rcases List.mem_append.1 ht' with h2 | h2
        · have hE := hc.1.1
          have hA := hc.1.2
          cases hop : o.op <;> rw [hop] at hE hA h2 <;> simp only [kindE, kindA, reduceCtorEq] at hE hA <;> simp only [trOf] at h2
          case load1 =>
            split at h2
            · exact ⟨_, _, List.mem_singleton.1 h2⟩
            · cases h2
          case loadN =>
            split at h2
            · exact ⟨_, _, List.mem_singleton.1 h2⟩
            · cases h2
          case b2s =>
            split at h2
            · exact ⟨_, _, List.mem_singleton.1 h2⟩
            · cases h2
          all_goals cases h2
        · exact ht t h2
      exact h.imp (fun _ _ _ _ _ h => h) key
    · rename_i hw
      rw [if_neg hw] at h
      exact calm_dops hc' ht h
theorem G_calm {pre : List (List Nat)} (hc : calm os = true) (h : GO C os ks Q T H) : G C (.dreg pre os) ks Q T H := calm_dops hc (fun _ h => by cases h) h
end
/-! ### What is looked up -/
theorem Zbb {T : Tm} {d : Nat} {v : Value} {t : Nat} : upd T d v t = if t = d then v else T t := nofl rfl
theorem Zbc {T : Tm} {d : Nat} {v : Value} : put T (some d) v = upd T d v := nofl rfl
theorem Zbd {T : Tm} {v : Value} : put T none v = T := nofl rfl
theorem Zbe {T : Tm} {t : Nat} : ev T (.tmp t) = T t := nofl rfl
theorem Zbf {T : Tm} {v : Value} : ev T (.const v) = v := nofl rfl
theorem T0_1 {a : Value} : T0 [a] = upd (fun _ => undef) 0 a := by funext t; rcases t with _ | t <;> simp [T0, upd]
theorem T0_2 {a b : Value} : T0 [a, b] = upd (upd (fun _ => undef) 0 a) 1 b := by funext t; rcases t with _ | _ | t <;> simp [T0, upd]
theorem T0_3 {a b c : Value} : T0 [a, b, c] = upd (upd (upd (fun _ => undef) 0 a) 1 b) 2 c := by funext t; rcases t with _ | _ | _ | t <;> simp [T0, upd]
theorem T0_4 {a b c d : Value} : T0 [a, b, c, d] = upd (upd (upd (upd (fun _ => undef) 0 a) 1 b) 2 c) 3 d := by funext t; rcases t with _ | _ | _ | _ | t <;> simp [T0, upd]
theorem T0_5 {a b c d e : Value} : T0 [a, b, c, d, e] = upd (upd (upd (upd (upd (fun _ => undef) 0 a) 1 b) 2 c) 3 d) 4 e := by funext t; rcases t with _ | _ | _ | _ | _ | t <;> simp [T0, upd]
theorem Zbg {H : Heap} {cs : List Value} : (H.push cs).nxt = H.nxt + 1 := nofl rfl
theorem push_get' {H : Heap} {cs : List Value} {x : Nat} : (H.push cs).get x = if x = H.nxt then some (.own cs) else H.get x := nofl rfl
theorem Zbh {H : Heap} {i : Nat} {cs : List Value} : (H.set i cs).nxt = H.nxt := nofl rfl
theorem Zbi {H : Heap} {i : Nat} {cs : List Value} {x : Nat} : (H.set i cs).get x = if x = i then some (.own cs) else H.get x := nofl rfl
theorem Zbj {H : Heap} {i : Nat} {cs : List Value} : (H.moved i cs).nxt = H.nxt + 1 := nofl rfl
theorem Zbk {H : Heap} {i : Nat} {cs : List Value} {x : Nat} : (H.moved i cs).get x = if x = H.nxt then some (.own cs) else if x = i then none else H.get x := nofl rfl
theorem Keep.push' {H H1 : Heap} {cs : List Value} (h : Keep H H1) : Keep H (H1.push cs) := h.trans (Keep.push _ _)
theorem Keep.set' {H H1 : Heap} {i : Nat} {cs : List Value} (h : Keep H H1) (hi : H.nxt ≤ i) : Keep H (H1.set i cs) := ⟨h.nxt, fun x hx => by rw [Zbi, if_neg (by omega)]; exact h.get x hx⟩
theorem Keep.moved' {H H1 : Heap} {i : Nat} {cs : List Value} (h : Keep H H1) (hi : H.nxt ≤ i) : Keep H (H1.moved i cs) := ⟨Nat.le_succ_of_le h.nxt, fun x hx => by rw [Zbk, if_neg (by have := h.nxt; omega), if_neg (by omega)]; exact h.get x hx⟩
end Go.Proofs.Ytkadelndmaegdaa.AX
