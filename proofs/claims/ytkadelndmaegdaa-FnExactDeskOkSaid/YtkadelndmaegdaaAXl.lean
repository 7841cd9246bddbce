/- The executor is sound: regions whose order is open, second part: what the slots and the heap are when some of the operations are done. No condition beyond each law's own; nothing of the program. -/
import Derived.Test.YtkadelndmaegdaaAXk
namespace Go.Proofs.Ytkadelndmaegdaa.AX
open Go

/-! ### Which objects a value leads to -/
def leafBel (c : Nat) : Value → Prop
  | .pointer (some a) => a.block < c
  | .slice (some a) _ _ => a.block < c
  | _ => True
def aBel (c : Nat) (v : Value) : Prop := ∀ u ∈ vcells v, leafBel c u
def vBel (c : Nat) : Value → Prop
  | .tuple xs => ∀ x ∈ xs.toList, aBel c x
  | .func _ _ xs => ∀ x ∈ xs.toList, leafBel c x
  | v => aBel c v
def cut (ρ : Map) (c : Nat) : Map := fun x => if x < c then ρ x else none
theorem cut_le (ρ : Map) (c : Nat) : Map.le (cut ρ c) ρ := by
  intro i x h
  unfold cut at h
  split at h
  · exact h
  · cases h
theorem VL.bel {ρ : Map} {c : Nat} (hf : ∀ i x, ρ i = some x → i < c) {a b : Value} (h : VL ρ a b) : leafBel c a := by
  cases h with
  | flat h => cases a <;> first | trivial | (rename_i x; cases x <;> first | trivial | cases h) | (rename_i x _ _; cases x <;> first | trivial | cases h)
  | nan _ _ => trivial
  | ptr h => exact hf _ _ h
  | slc h _ _ => exact hf _ _ h
  | slc0 h => exact hf _ _ h
theorem VL.cut_ {ρ : Map} {c : Nat} {a b : Value} (h : VL ρ a b) (hb : leafBel c a) : VL (cut ρ c) a b := by
  cases h with
  | flat h => exact .flat h
  | nan h1 h2 => exact .nan h1 h2
  | ptr h => exact .ptr (by unfold cut; rw [if_pos (show _ < c from hb)]; exact h)
  | slc h h2 h3 => exact .slc (by unfold cut; rw [if_pos (show _ < c from hb)]; exact h) h2 h3
  | slc0 h => exact .slc0 (by unfold cut; rw [if_pos (show _ < c from hb)]; exact h)
theorem VL.aBel_ {c : Nat} {a : Value} (h1 : oneCell a = true) (h : leafBel c a) : aBel c a := by
  have e : vcells a = [a] := by cases a <;> first | rfl | cases h1
  intro u hu
  rw [e] at hu
  rw [List.mem_singleton.1 hu]
  exact h
theorem VA.bel {ρ : Map} {c : Nat} (hf : ∀ i x, ρ i = some x → i < c) {a b : Value} (h : VA ρ a b) : aBel c a := by
  cases h with
  | leaf h => exact VL.aBel_ h.oneA (h.bel hf)
  | agg h =>
    intro u hu
    obtain ⟨j, hj⟩ := List.getElem?_of_mem hu
    obtain ⟨c', _, h2⟩ := h.get j u hj
    exact h2.bel hf
theorem VR.bel {ρ : Map} {c : Nat} (hf : ∀ i x, ρ i = some x → i < c) {a b : Value} (h : VR ρ a b) : vBel c a := by
  cases h with
  | one h =>
    have h1 := h.bel hf
    cases h with
    | leaf h =>
      cases a with
      | func fn fs cs =>
        cases h with
        | flat h =>
          have e : cs = #[] := by
            cases fn <;> simp [flatB] at h
            exact h.2
          subst e
          intro u hu
          simp at hu
      | tuple xs => cases h.oneA
      | _ => exact h1
    | agg _ => exact h1
  | tup h =>
    intro u hu
    obtain ⟨j, hj⟩ := List.getElem?_of_mem hu
    obtain ⟨c', _, h2⟩ := h.get j u hj
    exact h2.bel hf
  | fn h =>
    intro u hu
    obtain ⟨j, hj⟩ := List.getElem?_of_mem hu
    obtain ⟨c', _, h2⟩ := h.get j u hj
    exact h2.bel hf
theorem All2.imp_mem {α β : Type} {R S : α → β → Prop} {as : List α} {bs : List β} (h : All2 R as bs) (hi : ∀ a b, a ∈ as → R a b → S a b) : All2 S as bs := by
  induction h with
  | nil => exact .nil
  | cons h1 _ ih => exact .cons (hi _ _ (by simp) h1) (ih (fun a b ha hr => hi a b (by simp [ha]) hr))
theorem VA.cut_ {ρ : Map} {c : Nat} {a b : Value} (h : VA ρ a b) (hb : aBel c a) : VA (cut ρ c) a b := by
  cases h with
  | leaf h =>
    have h1 := h.oneA
    have e : vcells a = [a] := by cases a <;> first | rfl | cases h1
    exact .leaf (h.cut_ (hb a (by rw [e]; simp)))
  | agg h => exact .agg (h.imp_mem (fun x y hx hr => hr.cut_ (hb x hx)))
theorem VR.cut_ {ρ : Map} {c : Nat} {a b : Value} (h : VR ρ a b) (hb : vBel c a) : VR (cut ρ c) a b := by
  cases h with
  | one h =>
    refine .one (h.cut_ ?_)
    cases h with
    | leaf h =>
      cases a with
      | func fn fs cs =>
        intro u hu
        simp only [vcells, List.mem_singleton] at hu
        subst hu
        trivial
      | tuple xs => cases h.oneA
      | _ => exact hb
    | agg _ => exact hb
  | tup h => exact .tup (h.imp_mem (fun x y hx hr => hr.cut_ (hb x hx)))
  | fn h => exact .fn (h.imp_mem (fun x y hx hr => hr.cut_ (hb x hx)))
structure Wf (n : Nat) (T : Tm) (H : Heap) : Prop where
  heap : ∀ x ob, H.get x = some ob → x < H.nxt ∧ ∀ v ∈ ob.cells, leafBel H.nxt v
  slots : ∀ t, t < n → vBel H.nxt (T t)
theorem wf_of {ρ : Map} {H : Heap} {w : World} {n : Nat} {T : Tm} {a : Act} (hR : Rel ρ H w) (hT : TRel ρ n T a) : Wf n T H := by
  refine ⟨fun x ob hx => ⟨hR.lt x ob hx, fun v hv => ?_⟩, fun t ht => (hT.val t ht).bel hR.fresh⟩
  have hr : ∃ b L, ρ x = some (b, L) := by
    cases ob with
    | view cs => obtain ⟨b, L, h1, _⟩ := hR.view x cs hx; exact ⟨b, L, h1⟩
    | own cs => obtain ⟨g, off, L, h1, _⟩ := hR.own x cs hx; exact ⟨_, L, h1⟩
  obtain ⟨b, L, hr⟩ := hr
  obtain ⟨j, hj⟩ := List.getElem?_of_mem hv
  obtain ⟨c', _, h2⟩ := cells_of hR hx hr j v hj
  exact h2.bel hR.fresh
theorem wp_exists {P : Program} {o : Oper} {a : Act} {w : World} {K : Act → World → Prop} (h : o.wp P a w K (fun _ _ _ => False)) : ∃ a' w', K a' w' := by
  unfold Oper.wp at h
  generalize (execOp a.eval o).run P w = r at h
  cases r with
  | ok x w' =>
    cases x <;> simp only [Oper.upon] at h <;> first
      | exact ⟨_, _, h⟩
      | (obtain ⟨e, w2, fr, h1, _⟩ := h []
         cases e with
         | returned v => exact ⟨_, _, h1⟩
         | panicked c => exact h1.elim
         | outgrown => obtain ⟨_, _, h2⟩ := h1; exact h2.elim)
      | (obtain ⟨v, w2, h1, _⟩ := h default []
         exact ⟨_, _, h1⟩)
      | exact h.elim
  | halt x w' => cases x <;> simp only [Oper.upon] at h <;> exact h.elim
section
variable {P : Program} {C : CallRel} {n : Nat} {ops : Array Oper} {pre : List (List Nat)} {os : List XO} {Ts : Nat → Tm} {Hs : Nat → Heap} {vs : Nat → Value}
/-- The run in the text's order can be made: so its states are well formed. -/
theorem canon_wf (hC : CallSound P C) (hcan : Can P C n ops pre os Ts Hs vs) {ρ0 : Map} {w0 : World} {a0 : Act} (hR0 : Rel ρ0 (Hs 0) w0) (hT0 : TRel ρ0 n (Ts 0) a0) :
    (∀ k, k ≤ os.length → ∃ ρ a w, Rel ρ (Hs k) w ∧ TRel ρ n (Ts k) a) ∧ ∀ k, k < os.length → (Hs k).nxt ≤ (Hs (k + 1)).nxt := by
  have key : ∀ k, k < os.length → ∀ ρ a w, Rel ρ (Hs k) w → TRel ρ n (Ts k) a → (∃ ρ' a' w', Rel ρ' (Hs (k + 1)) w' ∧ TRel ρ' n (Ts (k + 1)) a') ∧ (Hs k).nxt ≤ (Hs (k + 1)).nxt := by
    intro k hk ρ a w hR hT
    obtain ⟨xo, hxo⟩ : ∃ xo, os[k]? = some xo := ⟨os[k], List.getElem?_eq_getElem hk⟩
    obtain ⟨o, ho, hco⟩ := hcan.oper k xo hxo
    obtain ⟨hd, hop, _, _⟩ := coper_parts hco
    rcases hcan.step k xo hxo with ⟨_, hv⟩ | ⟨_, hv, hh⟩
    · have := op1_sound (K := fun a' w' => (∃ ρ', Rel ρ' (Hs (k + 1)) w' ∧ TRel ρ' n (Ts (k + 1)) a') ∧ (Hs k).nxt ≤ (Hs (k + 1)).nxt) (Q := fun _ _ _ => False) hC hop hT hR hv (by
        rintro v v' H' ρ' w' ⟨rfl, rfl⟩ h1 hN
        refine ⟨⟨ρ', hN.rel, ?_⟩, hN.nxt⟩
        rw [hcan.next k xo hxo, hd]
        exact (hT.le hN.le).putO h1)
      obtain ⟨a', w', ⟨ρ', h1, h2⟩, h3⟩ := wp_exists this
      exact ⟨⟨ρ', a', w', h1, h2⟩, h3⟩
    · refine ⟨⟨ρ, a.put xo.dst undef, w, by rw [hh]; exact hR, ?_⟩, by rw [hh]; exact Nat.le_refl _⟩
      rw [hcan.next k xo hxo, hv]
      exact hT.putO (VR.undef_ _)
  have all : ∀ k, k ≤ os.length → ∃ ρ a w, Rel ρ (Hs k) w ∧ TRel ρ n (Ts k) a := by
    intro k
    induction k with
    | zero => intro _; exact ⟨ρ0, a0, w0, hR0, hT0⟩
    | succ k ih =>
      intro hk
      obtain ⟨ρ, a, w, h1, h2⟩ := ih (by omega)
      exact (key k (by omega) ρ a w h1 h2).1
  refine ⟨all, fun k hk => ?_⟩
  obtain ⟨ρ, a, w, h1, h2⟩ := all k (by omega)
  exact (key k hk ρ a w h1 h2).2
end
/-! ### The slots when S is done -/
def tk (os : List XO) (vs : Nat → Value) (T : Tm) (S : Nat → Bool) : Nat → Tm
  | 0 => T
  | k + 1 => match S k, os[k]? with
    | true, some xo => put (tk os vs T S k) xo.dst (vs k)
    | _, _ => tk os vs T S k
/-- The heap when S is done. -/
def gk (os : List XO) (Hs : Nat → Heap) (S : Nat → Bool) : Nat → Nat → Option Obj
  | 0, x => (Hs 0).get x
  | k + 1, x => match S k, os[k]? with
    | true, some xo => if kindE xo.op = true then (Hs (k + 1)).get x else if (Hs k).nxt ≤ x ∧ x < (Hs (k + 1)).nxt then (Hs (k + 1)).get x else gk os Hs S k x
    | _, _ => gk os Hs S k x
def with_ (S : Nat → Bool) (i : Nat) : Nat → Bool := fun k => if k = i then true else S k
section
variable {P : Program} {C : CallRel} {n : Nat} {ops : Array Oper} {pre : List (List Nat)} {os : List XO} {Ts : Nat → Tm} {Hs : Nat → Heap} {vs : Nat → Value} {S : Nat → Bool} {i : Nat} {xo : XO}
theorem pre_lt (hcan : Can P C n ops pre os Ts Hs vs) : ∀ i, i < os.length → ∀ j, pre_ pre i j = true → j < i := by
  intro i
  induction i using Nat.strongRecOn with
  | _ i ih =>
    intro hi j hj
    obtain ⟨o, ho, d, hd, h1⟩ := hcan.d2 i j hi hj
    have h2 := (hcan.d1 i o ho d hd).1
    rcases h1 with rfl | h1
    · exact h2
    · have := ih d h2 (by omega) j h1
      omega
/-- What S is closed under. -/
def Closed (pre : List (List Nat)) (m : Nat) (S : Nat → Bool) : Prop := ∀ i, i < m → S i = true → ∀ j, pre_ pre i j = true → S j = true
/-- Operation i may come next. -/
structure Now (pre : List (List Nat)) (m : Nat) (S : Nat → Bool) (i : Nat) : Prop where
  lt : i < m
  not : S i = false
  closed : Closed pre m S
  ahead : ∀ j, pre_ pre i j = true → S j = true
theorem Now.not_pre (h : Now pre os.length S i) {k : Nat} (hk : k < os.length) (hS : S k = true) : pre_ pre k i = false := by
  cases hp : pre_ pre k i with
  | false => rfl
  | true => have := h.closed k hk hS i hp; rw [h.not] at this; cases this
theorem tk_succ_true {T : Tm} {k : Nat} {yo : XO} (h1 : S k = true) (h2 : os[k]? = some yo) : tk os vs T S (k + 1) = put (tk os vs T S k) yo.dst (vs k) := by simp only [tk, h1, h2]
theorem tk_succ_false {T : Tm} {k : Nat} (h1 : S k = false) : tk os vs T S (k + 1) = tk os vs T S k := by simp only [tk, h1]
theorem put_ne {T : Tm} {d : Option Nat} {v : Value} {t : Nat} (h : d ≠ some t) : put T d v t = T t := by
  cases d with
  | none => rfl
  | some d => simp only [put, upd]; rw [if_neg (fun e => h (by rw [e]))]
theorem put_eq {T : Tm} {v : Value} {t : Nat} : put T (some t) v t = v := by simp [put, upd]
/-- What an operation looks at is what it is in the text's order. -/
theorem tk_eq (hcan : Can P C n ops pre os Ts Hs vs) (hn : Now pre os.length S i) (hxo : os[i]? = some xo) {t : Nat} (ht : t ∈ looksO xo) : ∀ k, k ≤ os.length → tk os vs (Ts 0) S k t = Ts (min k i) t := by
  intro k
  induction k with
  | zero => intro _; simp [tk]
  | succ k ih =>
    intro hk
    have ih := ih (by omega)
    obtain ⟨yo, hyo⟩ : ∃ yo, os[k]? = some yo := ⟨os[k], List.getElem?_eq_getElem (by omega)⟩
    have hnext := hcan.next k yo hyo
    by_cases hki : k < i
    · rw [Nat.min_eq_left (by omega)]
      rw [Nat.min_eq_left (by omega)] at ih
      rw [hnext]
      by_cases hd : yo.dst = some t
      · have hp : pre_ pre i k = true := by
          rcases hcan.d3 k i yo xo t hyo hxo (by omega) hd (.inl ht) with h1 | h1
          · have := pre_lt hcan k (by omega) i h1; omega
          · exact h1
        rw [tk_succ_true (hn.ahead k hp) hyo, hd, put_eq, put_eq]
      · rw [put_ne hd]
        cases hS : S k with
        | true => rw [tk_succ_true hS hyo, put_ne hd]; exact ih
        | false => rw [tk_succ_false hS]; exact ih
    · rw [Nat.min_eq_right (by omega)]
      rw [Nat.min_eq_right (by omega)] at ih
      cases hS : S k with
      | false => rw [tk_succ_false hS]; exact ih
      | true =>
        have hne : k ≠ i := fun e => by rw [e, hn.not] at hS; cases hS
        have hd : yo.dst ≠ some t := by
          intro hd
          rcases hcan.d3 k i yo xo t hyo hxo hne hd (.inl ht) with h1 | h1
          · rw [hn.not_pre (by omega) hS] at h1; cases h1
          · have := pre_lt hcan i hn.lt k h1; omega
        rw [tk_succ_true hS hyo, put_ne hd]
        exact ih
theorem with_ne {k : Nat} (h : k ≠ i) : with_ S i k = S k := by simp [with_, h]
theorem with_self : with_ S i i = true := by simp [with_]
theorem tk_before (T : Tm) : ∀ k, k ≤ i → tk os vs T (with_ S i) k = tk os vs T S k := by
  intro k
  induction k with
  | zero => intro _; rfl
  | succ k ih =>
    intro hk
    have ih := ih (by omega)
    simp only [tk, with_ne (S := S) (show k ≠ i by omega), ih]
theorem tk_put (hcan : Can P C n ops pre os Ts Hs vs) (hn : Now pre os.length S i) (hxo : os[i]? = some xo) : tk os vs (Ts 0) (with_ S i) os.length = put (tk os vs (Ts 0) S os.length) xo.dst (vs i) := by
  have key : ∀ k, i < k → k ≤ os.length → tk os vs (Ts 0) (with_ S i) k = put (tk os vs (Ts 0) S k) xo.dst (vs i) := by
    intro k
    induction k with
    | zero => intro h; omega
    | succ k ih =>
      intro h1 h2
      obtain ⟨yo, hyo⟩ : ∃ yo, os[k]? = some yo := ⟨os[k], List.getElem?_eq_getElem (by omega)⟩
      by_cases hki : k = i
      · subst hki
        rw [hxo] at hyo
        injection hyo with hyo
        subst hyo
        rw [tk_succ_true with_self hxo, tk_before _ k (Nat.le_refl _), tk_succ_false hn.not]
      · have ih := ih (by omega) (by omega)
        cases hS : S k with
        | false => rw [tk_succ_false (by rw [with_ne hki]; exact hS), tk_succ_false hS, ih]
        | true =>
          rw [tk_succ_true (by rw [with_ne hki]; exact hS) hyo, tk_succ_true hS hyo, ih]
          funext t
          by_cases hx : xo.dst = some t
          · have hy : yo.dst ≠ some t := by
              intro hy
              rcases hcan.d3 k i yo xo t hyo hxo hki hy (.inr hx) with h3 | h3
              · rw [hn.not_pre (by omega) hS] at h3; cases h3
              · have := pre_lt hcan i hn.lt k h3; omega
            rw [put_ne hy, hx, put_eq, put_eq]
          · by_cases hy : yo.dst = some t
            · rw [hy, put_eq, put_ne hx, put_eq]
            · rw [put_ne hy, put_ne hx, put_ne hx, put_ne hy]
  exact key os.length hn.lt (Nat.le_refl _)
theorem tk_all (hcan : Can P C n ops pre os Ts Hs vs) (hS : ∀ k, k < os.length → S k = true) : ∀ k, k ≤ os.length → tk os vs (Ts 0) S k = Ts k := by
  intro k
  induction k with
  | zero => intro _; rfl
  | succ k ih =>
    intro hk
    obtain ⟨yo, hyo⟩ : ∃ yo, os[k]? = some yo := ⟨os[k], List.getElem?_eq_getElem (by omega)⟩
    rw [tk_succ_true (hS k (by omega)) hyo, ih (by omega), hcan.next k yo hyo]
end
end Go.Proofs.Ytkadelndmaegdaa.AX
