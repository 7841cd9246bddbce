/- From a run of the executor to a row. No condition beyond each law's own; nothing of the program. -/
import Derived.Test.YtjjglonmaajjoaaAXj
import Derived.LoopN
import Derived.OpenShut
import Derived.ChangeOld
import Derived.Below
import Derived.Carry
namespace Go.Proofs.Ytjjglonmaajjoaa.AX
open Go

def Opv (C : CallRel) (T : Tm) (H : Heap) (op : XOp) (v : Value) (H' : Heap) : Prop := Op1 C T H op fun v0 H0 => v0 = v ∧ H0 = H'
theorem Op1.ex {C : CallRel} {T : Tm} {H : Heap} {op : XOp} {k : Value → Heap → Prop} (h : Op1 C T H op k) : ∃ v H', Opv C T H op v H' ∧ k v H' := by
  cases op <;> simp only [Opv, Op1] at h ⊢ <;> first
    | (obtain ⟨v, H', h1, h2⟩ := h; exact ⟨v, H', ⟨v, H', h1, rfl, rfl⟩, h2⟩)
    | (obtain ⟨f, cs, e, v, H', h1, h2⟩ := h; exact ⟨v, H', ⟨f, cs, e, v, H', h1, rfl, rfl⟩, h2⟩)
    | (split at h
       · exact ⟨_, _, ⟨rfl, rfl⟩, h⟩
       · exact h.elim)
theorem Opv.step {C : CallRel} {T : Tm} {H H' : Heap} {op : XOp} {v : Value} (h : Opv C T H op v H') (hc : ∀ f xs, op ≠ .call f xs) (hd : ∀ f xs, op ≠ .calld f xs) : step T H op = some (v, H') := by
  cases op <;> simp only [Opv, Op1] at h <;> first
    | exact absurd rfl (hc _ _)
    | exact absurd rfl (hd _ _)
    | (split at h
       · rename_i p hp
         obtain ⟨rfl, rfl⟩ := h
         rw [hp]
       · exact h.elim)
theorem dops_canon {C : CallRel} {pre : List (List Nat)} {Kx : Tm → Heap → Prop} : ∀ (os : List XO) (i : Nat) (tr : List Tr) (T : Tm) (H : Heap), Dops C pre i os tr Kx T H →
    ∃ (Ts : Nat → Tm) (Hs : Nat → Heap) (vs : Nat → Value) (tr' : List Tr), Ts 0 = T ∧ Hs 0 = H ∧
      (∀ (k : Nat) (xo : XO), os[k]? = some xo → (wanted (Ts k) xo.guard = true ∧ Opv C (Ts k) (Hs k) xo.op (vs k) (Hs (k + 1)) ∧ (∀ t ∈ trOf (i + k) (Ts k) (Hs k) (Hs (k + 1)) xo.op, t ∈ tr') ∨
          wanted (Ts k) xo.guard = false ∧ vs k = undef ∧ Hs (k + 1) = Hs k) ∧ Ts (k + 1) = put (Ts k) xo.dst (vs k)) ∧
      (∀ t ∈ tr, t ∈ tr') ∧ stable pre tr' ∧ Kx (Ts os.length) (Hs os.length)
  | [], i, tr, T, H, h => ⟨fun _ => T, fun _ => H, fun _ => undef, tr, rfl, rfl, fun k xo hk => by simp at hk, fun t ht => ht, h.1, h.2⟩
  | o :: os, i, tr, T, H, h => by
    simp only [Dops] at h
    split at h
    · rename_i hw
      obtain ⟨v, H', h1, h2⟩ := h.ex
      obtain ⟨Ts, Hs, vs, tr', e1, e2, h3, h4, h5, h6⟩ := dops_canon os (i + 1) _ _ _ h2
      refine ⟨fun k => match k with | 0 => T | k + 1 => Ts k, fun k => match k with | 0 => H | k + 1 => Hs k, fun k => match k with | 0 => v | k + 1 => vs k, tr', rfl, rfl, ?_, fun t ht => h4 t (List.mem_append_right _ ht), h5, h6⟩
      intro k xo hk
      cases k with
      | zero =>
        simp at hk
        subst hk
        refine ⟨.inl ⟨hw, by simpa [e2] using h1, fun t ht => h4 t (List.mem_append_left _ ?_)⟩, by simpa using e1⟩
        simpa [e2] using ht
      | succ k =>
        have hk' : os[k]? = some xo := by simpa using hk
        obtain ⟨h7, h8⟩ := h3 k xo hk'
        refine ⟨?_, h8⟩
        rcases h7 with ⟨h9, h10, h11⟩ | h7
        · exact .inl ⟨h9, h10, fun t ht => h11 t (by rw [show i + 1 + k = i + (k + 1) by omega]; exact ht)⟩
        · exact .inr h7
    · rename_i hw
      obtain ⟨Ts, Hs, vs, tr', e1, e2, h3, h4, h5, h6⟩ := dops_canon os (i + 1) _ _ _ h
      refine ⟨fun k => match k with | 0 => T | k + 1 => Ts k, fun k => match k with | 0 => H | k + 1 => Hs k, fun k => match k with | 0 => undef | k + 1 => vs k, tr', rfl, rfl, ?_, h4, h5, h6⟩
      intro k xo hk
      cases k with
      | zero =>
        simp at hk
        subst hk
        exact ⟨.inr ⟨by simpa using hw, rfl, e2⟩, by simpa using e1⟩
      | succ k =>
        have hk' : os[k]? = some xo := by simpa using hk
        obtain ⟨h7, h8⟩ := h3 k xo hk'
        refine ⟨?_, h8⟩
        rcases h7 with ⟨h9, h10, h11⟩ | h7
        · exact .inl ⟨h9, h10, fun t ht => h11 t (by rw [show i + 1 + k = i + (k + 1) by omega]; exact ht)⟩
        · exact .inr h7
theorem agreesAll_get {pre : List (List Nat)} {t : Tr} : ∀ {us : List Tr}, agreesAll pre t us → ∀ u ∈ us, agrees pre t u
  | [], _, u, hu => by cases hu
  | v :: us, h, u, hu => by
    rcases List.mem_cons.1 hu with rfl | hu
    · exact h.1
    · exact agreesAll_get h.2 u hu
theorem stable_get {pre : List (List Nat)} : ∀ {tr : List Tr}, stable pre tr → ∀ t ∈ tr, ∀ u ∈ tr, t = u ∨ agrees pre t u ∨ agrees pre u t
  | [], _, t, ht, _, _ => by cases ht
  | v :: tr, h, t, ht, u, hu => by
    rcases List.mem_cons.1 ht with e1 | ht1
    · rcases List.mem_cons.1 hu with e2 | hu1
      · exact .inl (e1.trans e2.symm)
      · exact .inr (.inl (e1 ▸ agreesAll_get h.1 u hu1))
    · rcases List.mem_cons.1 hu with e2 | hu1
      · exact .inr (.inr (e2 ▸ agreesAll_get h.1 t ht1))
      · exact stable_get h.2 t ht1 u hu1
/-- Object x is what the operation reads. -/
def Reads (T : Tm) (op : XOp) (x : Nat) : Prop := ∃ p o, (op = .load1 p ∨ ∃ m, op = .loadN m p) ∧ ev T p = .pointer (some ⟨x, o, none⟩) ∨ op = .b2s p ∧ ∃ n sz, ev T p = .slice (some ⟨x, o, none⟩) n sz
/-- The run in the text's order, and what is known of the region. -/
structure Can (P : Program) (C : CallRel) (n : Nat) (ops : Array Oper) (pre : List (List Nat)) (os : List XO) (Ts : Nat → Tm) (Hs : Nat → Heap) (vs : Nat → Value) : Prop where
  len : os.length = ops.size
  oper : ∀ (k : Nat) (xo : XO), os[k]? = some xo → ∃ o, ops[k]? = some o ∧ coper P n ops o = some xo
  step : ∀ (k : Nat) (xo : XO), os[k]? = some xo → wanted (Ts k) xo.guard = true ∧ Opv C (Ts k) (Hs k) xo.op (vs k) (Hs (k + 1)) ∨ wanted (Ts k) xo.guard = false ∧ vs k = undef ∧ Hs (k + 1) = Hs k
  next : ∀ (k : Nat) (xo : XO), os[k]? = some xo → Ts (k + 1) = put (Ts k) xo.dst (vs k)
  stE : ∀ (i j : Nat) (xo yo : XO) (x : Nat), os[i]? = some xo → os[j]? = some yo → wanted (Ts i) xo.guard = true → wanted (Ts j) yo.guard = true → Reads (Ts i) xo.op x → kindE yo.op = true → pre_ pre i j = true ∨ pre_ pre j i = true ∨ (Hs (j + 1)).get x = (Hs j).get x
  stA : ∀ (i j : Nat) (xo yo : XO) (x : Nat), os[i]? = some xo → os[j]? = some yo → wanted (Ts i) xo.guard = true → wanted (Ts j) yo.guard = true → Reads (Ts i) xo.op x → kindA yo.op = true → pre_ pre i j = true ∨ pre_ pre j i = true ∨ x ≠ (Hs j).nxt
  d1 : ∀ (i : Nat) (o : Oper), ops[i]? = some o → ∀ d ∈ directs o, d < i ∧ pre_ pre i d = true
  d2 : ∀ (i j : Nat), i < os.length → pre_ pre i j = true → ∃ o, ops[i]? = some o ∧ ∃ d ∈ directs o, d = j ∨ pre_ pre d j = true
  d3 : ∀ (i j : Nat) (xo yo : XO) (d : Nat), os[i]? = some xo → os[j]? = some yo → i ≠ j → xo.dst = some d → (d ∈ looksO yo ∨ yo.dst = some d) → pre_ pre i j = true ∨ pre_ pre j i = true
  d4 : ∀ (i j : Nat) (xo yo : XO), os[i]? = some xo → os[j]? = some yo → j < i → kindE xo.op = true → (kindE yo.op = true ∨ kindA yo.op = true) → pre_ pre i j = true
theorem trOf_reads {i : Nat} {T : Tm} {H H' : Heap} {op : XOp} {x : Nat} (h : Reads T op x) : Tr.L i x ∈ trOf i T H H' op := by
  obtain ⟨p, o, ⟨h1, h2⟩ | ⟨rfl, n, sz, h2⟩⟩ := h
  · rcases h1 with rfl | ⟨m, rfl⟩ <;> simp [trOf, h2]
  · simp [trOf, h2]
theorem trOf_E {i : Nat} {T : Tm} {H H' : Heap} {op : XOp} (h : kindE op = true) : Tr.E i H H' ∈ trOf i T H H' op := by
  cases op <;> simp [kindE] at h <;> simp [trOf]
theorem trOf_A {i : Nat} {T : Tm} {H H' : Heap} {op : XOp} (h : kindA op = true) : Tr.A i H.nxt ∈ trOf i T H H' op := by
  cases op <;> simp [kindA] at h <;> simp [trOf]
theorem mapM_get {α β : Type} {f : α → Option β} : ∀ {l : List α} {r : List β}, l.mapM f = some r → l.length = r.length ∧ ∀ (k : Nat) (b : β), r[k]? = some b → ∃ a, l[k]? = some a ∧ f a = some b
  | [], r, h => by simp at h; subst h; exact ⟨rfl, fun k b hk => by simp at hk⟩
  | a :: l, r, h => by
    simp only [List.mapM_cons, Option.bind_eq_bind, Option.bind_eq_some_iff, Option.pure_def, Option.some.injEq] at h
    obtain ⟨b, hb, r', hr, rfl⟩ := h
    obtain ⟨h1, h2⟩ := mapM_get hr
    refine ⟨by simp [h1], fun k c hk => ?_⟩
    cases k with
    | zero => simp at hk; subst hk; exact ⟨a, by simp, hb⟩
    | succ k => simp at hk; obtain ⟨a', h3, h4⟩ := h2 k c hk; exact ⟨a', by simpa using h3, h4⟩
/-- What is asked of a region, as laws. -/
theorem dregOk_laws {ops : Array Oper} {pre : List (List Nat)} {os : List XO} (h : dregOk ops pre os = true) :
    (∀ (i : Nat) (o : Oper), ops[i]? = some o → ∀ d ∈ directs o, d < i ∧ pre_ pre i d = true) ∧
    (∀ (i j : Nat), i < os.length → pre_ pre i j = true → ∃ o, ops[i]? = some o ∧ ∃ d ∈ directs o, d = j ∨ pre_ pre d j = true) ∧
    (∀ (i j : Nat) (xo yo : XO) (d : Nat), os[i]? = some xo → os[j]? = some yo → i ≠ j → xo.dst = some d → (d ∈ looksO yo ∨ yo.dst = some d) → pre_ pre i j = true ∨ pre_ pre j i = true) ∧
    (∀ (i j : Nat) (xo yo : XO), os[i]? = some xo → os[j]? = some yo → j < i → kindE xo.op = true → (kindE yo.op = true ∨ kindA yo.op = true) → pre_ pre i j = true) := by
  simp only [dregOk, Bool.and_eq_true, List.all_eq_true, List.mem_range, beq_iff_eq] at h
  obtain ⟨⟨⟨⟨hsz, _⟩, h1⟩, h2⟩, h3⟩ := h
  refine ⟨?_, ?_, ?_, ?_⟩
  · intro i o ho d hd
    have hi : i < os.length := by rw [← hsz]; exact (Array.getElem?_eq_some_iff.1 ho).1
    have := h1 i hi
    rw [ho] at this
    simp only [Bool.and_eq_true, List.all_eq_true, decide_eq_true_eq] at this
    exact this.1 d hd
  · intro i j hi hp
    have := h1 i hi
    cases ho : ops[i]? with
    | none => rw [ho] at this; simp at this
    | some o =>
      rw [ho] at this
      simp only [Bool.and_eq_true, List.all_eq_true, List.any_eq_true, Bool.or_eq_true, beq_iff_eq] at this
      have hj : j ∈ pre.getD i [] := by
        simp only [pre_, List.contains_iff_mem] at hp
        exact hp
      obtain ⟨d, hd, hdj⟩ := this.2 j hj
      exact ⟨o, rfl, d, hd, hdj⟩
  · intro i j xo yo d hi hj hij hd hor
    have hil := (List.getElem?_eq_some_iff.1 hi).1
    have hjl := (List.getElem?_eq_some_iff.1 hj).1
    have := h2 i hil j hjl
    rw [hi, hj] at this
    simp only [Bool.or_eq_true, beq_iff_eq, hd] at this
    rcases this with ((h4 | h4) | h4) | h4
    · exact absurd h4 hij
    · exact .inl h4
    · exact .inr h4
    · exfalso
      simp only [Bool.and_eq_true, Bool.not_eq_true', bne_iff_ne, ne_eq] at h4
      rcases hor with h5 | h5
      · have : (looksO yo).contains d = true := by simpa using h5
        rw [this] at h4
        cases h4.1
      · exact h4.2 h5
  · intro i j xo yo hi hj hji hE hor
    have hil := (List.getElem?_eq_some_iff.1 hi).1
    have := h3 i hil
    rw [hi] at this
    simp only [Bool.or_eq_true, Bool.not_eq_true', List.all_eq_true, List.mem_range, hE] at this
    rcases this with h4 | h4
    · cases h4
    · have h5 := h4 j hji
      rw [hj] at h5
      simp only [Bool.or_eq_true, Bool.not_eq_true', Bool.or_eq_false_iff] at h5
      rcases h5 with h5 | h5
      · rcases hor with h6 | h6
        · rw [h6] at h5; cases h5.1
        · rw [h6] at h5; cases h5.2
      · exact h5
theorem can_of {P : Program} {C : CallRel} {n : Nat} {ops : Array Oper} {pre : List (List Nat)} {os : List XO} (hos : cops P n ops = some os) (hd : dregOk ops pre os = true) {Kx : Tm → Heap → Prop} {T : Tm} {H : Heap} (h : Dops C pre 0 os [] Kx T H) :
    ∃ Ts Hs vs, Can P C n ops pre os Ts Hs vs ∧ Ts 0 = T ∧ Hs 0 = H ∧ Kx (Ts os.length) (Hs os.length) := by
  obtain ⟨Ts, Hs, vs, tr, e1, e2, h3, _, h5, h6⟩ := dops_canon os 0 [] T H h
  obtain ⟨hl, hg⟩ := mapM_get hos
  obtain ⟨d1, d2, d3, d4⟩ := dregOk_laws hd
  refine ⟨Ts, Hs, vs, ⟨by simpa using hl.symm, ?_, ?_, fun k xo hk => (h3 k xo hk).2, ?_, ?_, d1, d2, d3, d4⟩, e1, e2, h6⟩
  · intro k xo hk
    obtain ⟨o, h7, h8⟩ := hg k xo hk
    exact ⟨o, by simpa using h7, h8⟩
  · intro k xo hk
    rcases (h3 k xo hk).1 with ⟨h7, h8, _⟩ | h7
    · exact .inl ⟨h7, h8⟩
    · exact .inr h7
  · intro i j xo yo x hi hj hwi hwj hr hE
    have ti : Tr.L i x ∈ tr := by
      rcases (h3 i xo hi).1 with ⟨_, _, h7⟩ | ⟨h7, _⟩
      · exact h7 _ (by simpa using trOf_reads (i := i) hr)
      · rw [hwi] at h7; cases h7
    have tj : Tr.E j (Hs j) (Hs (j + 1)) ∈ tr := by
      rcases (h3 j yo hj).1 with ⟨_, _, h7⟩ | ⟨h7, _⟩
      · exact h7 _ (by simpa using trOf_E (i := j) hE)
      · rw [hwj] at h7; cases h7
    have : Zio pre i x j (Hs j) (Hs (j + 1)) := by
      rcases stable_get h5 _ ti _ tj with h7 | h7 | h7
      · cases h7
      · exact h7
      · exact h7
    unfold Zio at this
    split at this
    · rename_i h8
      simp only [Bool.or_eq_true] at h8
      rcases h8 with h8 | h8
      · exact .inl h8
      · exact .inr (.inl h8)
    · exact .inr (.inr this)
  · intro i j xo yo x hi hj hwi hwj hr hA
    have ti : Tr.L i x ∈ tr := by
      rcases (h3 i xo hi).1 with ⟨_, _, h7⟩ | ⟨h7, _⟩
      · exact h7 _ (by simpa using trOf_reads (i := i) hr)
      · rw [hwi] at h7; cases h7
    have tj : Tr.A j (Hs j).nxt ∈ tr := by
      rcases (h3 j yo hj).1 with ⟨_, _, h7⟩ | ⟨h7, _⟩
      · exact h7 _ (by simpa using trOf_A (i := j) hA)
      · rw [hwj] at h7; cases h7
    have : Zip pre i x j (Hs j).nxt := by
      rcases stable_get h5 _ ti _ tj with h7 | h7 | h7
      · cases h7
      · exact h7
      · exact h7
    unfold Zip at this
    split at this
    · rename_i h8
      simp only [Bool.or_eq_true] at h8
      rcases h8 with h8 | h8
      · exact .inl h8
      · exact .inr (.inl h8)
    · exact .inr (.inr this)
/-! ### What an operation does to the heap, by its kind -/
theorem step_kind {T : Tm} {H H' : Heap} {op : XOp} {v : Value} (h : step T H op = some (v, H')) (hE : kindE op = false) : (kindA op = true → ∃ cs, H' = H.push cs) ∧ (kindA op = false → H' = H) := by
  cases op <;> simp only [kindE, reduceCtorEq] at hE <;> refine ⟨fun hA => ?_, fun hA => ?_⟩ <;> simp only [kindA, reduceCtorEq] at hA <;> simp only [step] at h
  all_goals (repeat' (split at h))
  all_goals first
    | (cases h; done)
    | (simp only [Option.some.injEq, Prod.mk.injEq] at h; exact h.2.symm)
    | (simp only [Option.some.injEq, Prod.mk.injEq] at h; exact ⟨_, h.2.symm⟩)
    | (simp only [Option.map_eq_some_iff, Prod.mk.injEq] at h; obtain ⟨_, _, _, h⟩ := h; exact h.symm)
    | (simp only [Option.map_eq_some_iff, Prod.mk.injEq] at h; obtain ⟨_, _, _, h⟩ := h; exact ⟨_, h.symm⟩)
end Go.Proofs.Ytjjglonmaajjoaa.AX
namespace Go.Proofs.Ytjjglonmaajjoaa.AX
open Go

/-! ### Which objects a value leads to -/
def leafBel (c : Nat) : Value → Prop
  | .pointer (some a) => a.block < c
  | .slice (some a) _ _ => a.block < c
  | _ => True
def aBel (c : Nat) (v : Value) : Prop := ∀ u ∈ vcells v, leafBel c u
def vBel (c : Nat) : Value → Prop
  | .tuple xs => ∀ x ∈ xs.toList, aBel c x
  | .func _ _ xs => ∀ x ∈ xs.toList, leafBel c x
  | v => aBel c v
def cut (ρ : Map) (c : Nat) : Map := fun x => if x < c then ρ x else none
theorem cut_le (ρ : Map) (c : Nat) : Map.le (cut ρ c) ρ := by
  intro i x h
  unfold cut at h
  split at h
  · exact h
  · cases h
theorem VL.bel {ρ : Map} {c : Nat} (hf : ∀ i x, ρ i = some x → i < c) {a b : Value} (h : VL ρ a b) : leafBel c a := by
  cases h with
  | flat h => cases a <;> first | trivial | (rename_i x; cases x <;> first | trivial | cases h) | (rename_i x _ _; cases x <;> first | trivial | cases h)
  | nan _ _ => trivial
  | ptr h => exact hf _ _ h
  | slc h _ _ => exact hf _ _ h
  | slc0 h => exact hf _ _ h
theorem VL.cut_ {ρ : Map} {c : Nat} {a b : Value} (h : VL ρ a b) (hb : leafBel c a) : VL (cut ρ c) a b := by
  cases h with
  | flat h => exact .flat h
  | nan h1 h2 => exact .nan h1 h2
  | ptr h => exact .ptr (by unfold cut; rw [if_pos (show _ < c from hb)]; exact h)
  | slc h h2 h3 => exact .slc (by unfold cut; rw [if_pos (show _ < c from hb)]; exact h) h2 h3
  | slc0 h => exact .slc0 (by unfold cut; rw [if_pos (show _ < c from hb)]; exact h)
theorem VL.aBel_ {c : Nat} {a : Value} (h1 : oneCell a = true) (h : leafBel c a) : aBel c a := by
  have e : vcells a = [a] := by cases a <;> first | rfl | cases h1
  intro u hu
  rw [e] at hu
  rw [List.mem_singleton.1 hu]
  exact h
theorem VA.bel {ρ : Map} {c : Nat} (hf : ∀ i x, ρ i = some x → i < c) {a b : Value} (h : VA ρ a b) : aBel c a := by
  cases h with
  | leaf h => exact VL.aBel_ h.oneA (h.bel hf)
  | agg h =>
    intro u hu
    obtain ⟨j, hj⟩ := List.getElem?_of_mem hu
    obtain ⟨c', _, h2⟩ := h.get j u hj
    exact h2.bel hf
theorem VR.bel {ρ : Map} {c : Nat} (hf : ∀ i x, ρ i = some x → i < c) {a b : Value} (h : VR ρ a b) : vBel c a := by
  cases h with
  | one h =>
    have h1 := h.bel hf
    cases h with
    | leaf h =>
      cases a with
      | func fn fs cs =>
        cases h with
        | flat h =>
          have e : cs = #[] := by
            cases fn <;> simp [flatB] at h
            exact h.2
          subst e
          intro u hu
          simp at hu
      | tuple xs => cases h.oneA
      | _ => exact h1
    | agg _ => exact h1
  | tup h =>
    intro u hu
    obtain ⟨j, hj⟩ := List.getElem?_of_mem hu
    obtain ⟨c', _, h2⟩ := h.get j u hj
    exact h2.bel hf
  | fn h =>
    intro u hu
    obtain ⟨j, hj⟩ := List.getElem?_of_mem hu
    obtain ⟨c', _, h2⟩ := h.get j u hj
    exact h2.bel hf
theorem All2.imp_mem {α β : Type} {R S : α → β → Prop} {as : List α} {bs : List β} (h : All2 R as bs) (hi : ∀ a b, a ∈ as → R a b → S a b) : All2 S as bs := by
  induction h with
  | nil => exact .nil
  | cons h1 _ ih => exact .cons (hi _ _ (by simp) h1) (ih (fun a b ha hr => hi a b (by simp [ha]) hr))
theorem VA.cut_ {ρ : Map} {c : Nat} {a b : Value} (h : VA ρ a b) (hb : aBel c a) : VA (cut ρ c) a b := by
  cases h with
  | leaf h =>
    have h1 := h.oneA
    have e : vcells a = [a] := by cases a <;> first | rfl | cases h1
    exact .leaf (h.cut_ (hb a (by rw [e]; simp)))
  | agg h => exact .agg (h.imp_mem (fun x y hx hr => hr.cut_ (hb x hx)))
theorem VR.cut_ {ρ : Map} {c : Nat} {a b : Value} (h : VR ρ a b) (hb : vBel c a) : VR (cut ρ c) a b := by
  cases h with
  | one h =>
    refine .one (h.cut_ ?_)
    cases h with
    | leaf h =>
      cases a with
      | func fn fs cs =>
        intro u hu
        simp only [vcells, List.mem_singleton] at hu
        subst hu
        trivial
      | tuple xs => cases h.oneA
      | _ => exact hb
    | agg _ => exact hb
  | tup h => exact .tup (h.imp_mem (fun x y hx hr => hr.cut_ (hb x hx)))
  | fn h => exact .fn (h.imp_mem (fun x y hx hr => hr.cut_ (hb x hx)))
structure Wf (n : Nat) (T : Tm) (H : Heap) : Prop where
  heap : ∀ x ob, H.get x = some ob → x < H.nxt ∧ ∀ v ∈ ob.cells, leafBel H.nxt v
  slots : ∀ t, t < n → vBel H.nxt (T t)
theorem wf_of {ρ : Map} {H : Heap} {w : World} {n : Nat} {T : Tm} {a : Act} (hR : Rel ρ H w) (hT : TRel ρ n T a) : Wf n T H := by
  refine ⟨fun x ob hx => ⟨hR.lt x ob hx, fun v hv => ?_⟩, fun t ht => (hT.val t ht).bel hR.fresh⟩
  have hr : ∃ b L, ρ x = some (b, L) := by
    cases ob with
    | view cs => obtain ⟨b, L, h1, _⟩ := hR.view x cs hx; exact ⟨b, L, h1⟩
    | own cs => obtain ⟨g, off, L, h1, _⟩ := hR.own x cs hx; exact ⟨_, L, h1⟩
  obtain ⟨b, L, hr⟩ := hr
  obtain ⟨j, hj⟩ := List.getElem?_of_mem hv
  obtain ⟨c', _, h2⟩ := cells_of hR hx hr j v hj
  exact h2.bel hR.fresh
theorem wp_exists {P : Program} {o : Oper} {a : Act} {w : World} {K : Act → World → Prop} (h : o.wp P a w K (fun _ _ _ => False)) : ∃ a' w', K a' w' := by
  unfold Oper.wp at h
  generalize (execOp a.eval o).run P w = r at h
  cases r with
  | ok x w' =>
    cases x <;> simp only [Oper.upon] at h <;> first
      | exact ⟨_, _, h⟩
      | (obtain ⟨e, w2, fr, h1, _⟩ := h []
         cases e with
         | returned v => exact ⟨_, _, h1⟩
         | panicked c => exact h1.elim
         | outgrown => obtain ⟨_, _, h2⟩ := h1; exact h2.elim)
      | (obtain ⟨v, w2, h1, _⟩ := h default []
         exact ⟨_, _, h1⟩)
      | exact h.elim
  | halt x w' => cases x <;> simp only [Oper.upon] at h <;> exact h.elim
section
variable {P : Program} {C : CallRel} {n : Nat} {ops : Array Oper} {pre : List (List Nat)} {os : List XO} {Ts : Nat → Tm} {Hs : Nat → Heap} {vs : Nat → Value}
/-- The run in the text's order can be made: so its states are well formed. -/
theorem canon_wf (hC : CallSound P C) (hcan : Can P C n ops pre os Ts Hs vs) {ρ0 : Map} {w0 : World} {a0 : Act} (hR0 : Rel ρ0 (Hs 0) w0) (hT0 : TRel ρ0 n (Ts 0) a0) :
    (∀ k, k ≤ os.length → ∃ ρ a w, Rel ρ (Hs k) w ∧ TRel ρ n (Ts k) a) ∧ ∀ k, k < os.length → (Hs k).nxt ≤ (Hs (k + 1)).nxt := by
  have key : ∀ k, k < os.length → ∀ ρ a w, Rel ρ (Hs k) w → TRel ρ n (Ts k) a → (∃ ρ' a' w', Rel ρ' (Hs (k + 1)) w' ∧ TRel ρ' n (Ts (k + 1)) a') ∧ (Hs k).nxt ≤ (Hs (k + 1)).nxt := by
    intro k hk ρ a w hR hT
    obtain ⟨xo, hxo⟩ : ∃ xo, os[k]? = some xo := ⟨os[k], List.getElem?_eq_getElem hk⟩
    obtain ⟨o, ho, hco⟩ := hcan.oper k xo hxo
    obtain ⟨hd, hop, _, _⟩ := coper_parts hco
    rcases hcan.step k xo hxo with ⟨_, hv⟩ | ⟨_, hv, hh⟩
    · have := op1_sound (K := fun a' w' => (∃ ρ', Rel ρ' (Hs (k + 1)) w' ∧ TRel ρ' n (Ts (k + 1)) a') ∧ (Hs k).nxt ≤ (Hs (k + 1)).nxt) (Q := fun _ _ _ => False) hC hop hT hR hv (by
        rintro v v' H' ρ' w' ⟨rfl, rfl⟩ h1 hN
        refine ⟨⟨ρ', hN.rel, ?_⟩, hN.nxt⟩
        rw [hcan.next k xo hxo, hd]
        exact (hT.le hN.le).putO h1)
      obtain ⟨a', w', ⟨ρ', h1, h2⟩, h3⟩ := wp_exists this
      exact ⟨⟨ρ', a', w', h1, h2⟩, h3⟩
    · refine ⟨⟨ρ, a.put xo.dst undef, w, by rw [hh]; exact hR, ?_⟩, by rw [hh]; exact Nat.le_refl _⟩
      rw [hcan.next k xo hxo, hv]
      exact hT.putO (VR.undef_ _)
  have all : ∀ k, k ≤ os.length → ∃ ρ a w, Rel ρ (Hs k) w ∧ TRel ρ n (Ts k) a := by
    intro k
    induction k with
    | zero => intro _; exact ⟨ρ0, a0, w0, hR0, hT0⟩
    | succ k ih =>
      intro hk
      obtain ⟨ρ, a, w, h1, h2⟩ := ih (by omega)
      exact (key k (by omega) ρ a w h1 h2).1
  refine ⟨all, fun k hk => ?_⟩
  obtain ⟨ρ, a, w, h1, h2⟩ := all k (by omega)
  exact (key k hk ρ a w h1 h2).2
end
/-! ### The slots when S is done -/
def tk (os : List XO) (vs : Nat → Value) (T : Tm) (S : Nat → Bool) : Nat → Tm
  | 0 => T
  | k + 1 => match S k, os[k]? with
    | true, some xo => put (tk os vs T S k) xo.dst (vs k)
    | _, _ => tk os vs T S k
/-- The heap when S is done. -/
def gk (os : List XO) (Hs : Nat → Heap) (S : Nat → Bool) : Nat → Nat → Option Obj
  | 0, x => (Hs 0).get x
  | k + 1, x => match S k, os[k]? with
    | true, some xo => if kindE xo.op = true then (Hs (k + 1)).get x else if (Hs k).nxt ≤ x ∧ x < (Hs (k + 1)).nxt then (Hs (k + 1)).get x else gk os Hs S k x
    | _, _ => gk os Hs S k x
def with_ (S : Nat → Bool) (i : Nat) : Nat → Bool := fun k => if k = i then true else S k
section
variable {P : Program} {C : CallRel} {n : Nat} {ops : Array Oper} {pre : List (List Nat)} {os : List XO} {Ts : Nat → Tm} {Hs : Nat → Heap} {vs : Nat → Value} {S : Nat → Bool} {i : Nat} {xo : XO}
theorem pre_lt (hcan : Can P C n ops pre os Ts Hs vs) : ∀ i, i < os.length → ∀ j, pre_ pre i j = true → j < i := by
  intro i
  induction i using Nat.strongRecOn with
  | _ i ih =>
    intro hi j hj
    obtain ⟨o, ho, d, hd, h1⟩ := hcan.d2 i j hi hj
    have h2 := (hcan.d1 i o ho d hd).1
    rcases h1 with rfl | h1
    · exact h2
    · have := ih d h2 (by omega) j h1
      omega
/-- What S is closed under. -/
def Closed (pre : List (List Nat)) (m : Nat) (S : Nat → Bool) : Prop := ∀ i, i < m → S i = true → ∀ j, pre_ pre i j = true → S j = true
/-- Operation i may come next. -/
structure Now (pre : List (List Nat)) (m : Nat) (S : Nat → Bool) (i : Nat) : Prop where
  lt : i < m
  not : S i = false
  closed : Closed pre m S
  ahead : ∀ j, pre_ pre i j = true → S j = true
theorem Now.not_pre (h : Now pre os.length S i) {k : Nat} (hk : k < os.length) (hS : S k = true) : pre_ pre k i = false := by
  cases hp : pre_ pre k i with
  | false => rfl
  | true => have := h.closed k hk hS i hp; rw [h.not] at this; cases this
theorem tk_succ_true {T : Tm} {k : Nat} {yo : XO} (h1 : S k = true) (h2 : os[k]? = some yo) : tk os vs T S (k + 1) = put (tk os vs T S k) yo.dst (vs k) := by simp only [tk, h1, h2]
theorem tk_succ_false {T : Tm} {k : Nat} (h1 : S k = false) : tk os vs T S (k + 1) = tk os vs T S k := by simp only [tk, h1]
theorem put_ne {T : Tm} {d : Option Nat} {v : Value} {t : Nat} (h : d ≠ some t) : put T d v t = T t := by
  cases d with
  | none => rfl
  | some d => simp only [put, upd]; rw [if_neg (fun e => h (by rw [e]))]
theorem put_eq {T : Tm} {v : Value} {t : Nat} : put T (some t) v t = v := by simp [put, upd]
/-- What an operation looks at is what it is in the text's order. -/
theorem tk_eq (hcan : Can P C n ops pre os Ts Hs vs) (hn : Now pre os.length S i) (hxo : os[i]? = some xo) {t : Nat} (ht : t ∈ looksO xo) : ∀ k, k ≤ os.length → tk os vs (Ts 0) S k t = Ts (min k i) t := by
  intro k
  induction k with
  | zero => intro _; simp [tk]
  | succ k ih =>
    intro hk
    have ih := ih (by omega)
    obtain ⟨yo, hyo⟩ : ∃ yo, os[k]? = some yo := ⟨os[k], List.getElem?_eq_getElem (by omega)⟩
    have hnext := hcan.next k yo hyo
    by_cases hki : k < i
    · rw [Nat.min_eq_left (by omega)]
      rw [Nat.min_eq_left (by omega)] at ih
      rw [hnext]
      by_cases hd : yo.dst = some t
      · have hp : pre_ pre i k = true := by
          rcases hcan.d3 k i yo xo t hyo hxo (by omega) hd (.inl ht) with h1 | h1
          · have := pre_lt hcan k (by omega) i h1; omega
          · exact h1
        rw [tk_succ_true (hn.ahead k hp) hyo, hd, put_eq, put_eq]
      · rw [put_ne hd]
        cases hS : S k with
        | true => rw [tk_succ_true hS hyo, put_ne hd]; exact ih
        | false => rw [tk_succ_false hS]; exact ih
    · rw [Nat.min_eq_right (by omega)]
      rw [Nat.min_eq_right (by omega)] at ih
      cases hS : S k with
      | false => rw [tk_succ_false hS]; exact ih
      | true =>
        have hne : k ≠ i := fun e => by rw [e, hn.not] at hS; cases hS
        have hd : yo.dst ≠ some t := by
          intro hd
          rcases hcan.d3 k i yo xo t hyo hxo hne hd (.inl ht) with h1 | h1
          · rw [hn.not_pre (by omega) hS] at h1; cases h1
          · have := pre_lt hcan i hn.lt k h1; omega
        rw [tk_succ_true hS hyo, put_ne hd]
        exact ih
theorem with_ne {k : Nat} (h : k ≠ i) : with_ S i k = S k := by simp [with_, h]
theorem with_self : with_ S i i = true := by simp [with_]
theorem tk_before (T : Tm) : ∀ k, k ≤ i → tk os vs T (with_ S i) k = tk os vs T S k := by
  intro k
  induction k with
  | zero => intro _; rfl
  | succ k ih =>
    intro hk
    have ih := ih (by omega)
    simp only [tk, with_ne (S := S) (show k ≠ i by omega), ih]
theorem tk_put (hcan : Can P C n ops pre os Ts Hs vs) (hn : Now pre os.length S i) (hxo : os[i]? = some xo) : tk os vs (Ts 0) (with_ S i) os.length = put (tk os vs (Ts 0) S os.length) xo.dst (vs i) := by
  have key : ∀ k, i < k → k ≤ os.length → tk os vs (Ts 0) (with_ S i) k = put (tk os vs (Ts 0) S k) xo.dst (vs i) := by
    intro k
    induction k with
    | zero => intro h; omega
    | succ k ih =>
      intro h1 h2
      obtain ⟨yo, hyo⟩ : ∃ yo, os[k]? = some yo := ⟨os[k], List.getElem?_eq_getElem (by omega)⟩
      by_cases hki : k = i
      · subst hki
        rw [hxo] at hyo
        injection hyo with hyo
        subst hyo
        rw [tk_succ_true with_self hxo, tk_before _ k (Nat.le_refl _), tk_succ_false hn.not]
      · have ih := ih (by omega) (by omega)
        cases hS : S k with
        | false => rw [tk_succ_false (by rw [with_ne hki]; exact hS), tk_succ_false hS, ih]
        | true =>
          rw [tk_succ_true (by rw [with_ne hki]; exact hS) hyo, tk_succ_true hS hyo, ih]
          funext t
          by_cases hx : xo.dst = some t
          · have hy : yo.dst ≠ some t := by
              intro hy
              rcases hcan.d3 k i yo xo t hyo hxo hki hy (.inr hx) with h3 | h3
              · rw [hn.not_pre (by omega) hS] at h3; cases h3
              · have := pre_lt hcan i hn.lt k h3; omega
            rw [put_ne hy, hx, put_eq, put_eq]
          · by_cases hy : yo.dst = some t
            · rw [hy, put_eq, put_ne hx, put_eq]
            · rw [put_ne hy, put_ne hx, put_ne hx, put_ne hy]
  exact key os.length hn.lt (Nat.le_refl _)
theorem tk_all (hcan : Can P C n ops pre os Ts Hs vs) (hS : ∀ k, k < os.length → S k = true) : ∀ k, k ≤ os.length → tk os vs (Ts 0) S k = Ts k := by
  intro k
  induction k with
  | zero => intro _; rfl
  | succ k ih =>
    intro hk
    obtain ⟨yo, hyo⟩ : ∃ yo, os[k]? = some yo := ⟨os[k], List.getElem?_eq_getElem (by omega)⟩
    rw [tk_succ_true (hS k (by omega)) hyo, ih (by omega), hcan.next k yo hyo]
end
end Go.Proofs.Ytjjglonmaajjoaa.AX
namespace Go.Proofs.Ytjjglonmaajjoaa.AX
open Go

section
variable {P : Program} {C : CallRel} {n : Nat} {ops : Array Oper} {pre : List (List Nat)} {os : List XO} {Ts : Nat → Tm} {Hs : Nat → Heap} {vs : Nat → Value} {S : Nat → Bool} {i : Nat} {xo : XO}
theorem heapstep (hcan : Can P C n ops pre os Ts Hs vs) {k : Nat} {yo : XO} (hyo : os[k]? = some yo) (hE : kindE yo.op = false) :
    Hs (k + 1) = Hs k ∨ kindA yo.op = true ∧ wanted (Ts k) yo.guard = true ∧ ∃ cs, Hs (k + 1) = (Hs k).push cs := by
  rcases hcan.step k yo hyo with ⟨hw, hv⟩ | ⟨_, _, hh⟩
  · have hs := hv.step (fun f xs e => by rw [e] at hE; cases hE) (fun f xs e => by rw [e] at hE; cases hE)
    have hk := step_kind hs hE
    cases hA : kindA yo.op with
    | true => exact .inr ⟨rfl, hw, hk.1 hA⟩
    | false => exact .inl (hk.2 hA)
  · exact .inl hh
theorem push_get (H : Heap) (cs : List Value) (x : Nat) : (H.push cs).get x = if x = H.nxt then some (.own cs) else H.get x := rfl
theorem gk_false {k x : Nat} (h : S k = false) : gk os Hs S (k + 1) x = gk os Hs S k x := by simp only [gk, h]
theorem gk_true {k x : Nat} {yo : XO} (h : S k = true) (hyo : os[k]? = some yo) : gk os Hs S (k + 1) x = if kindE yo.op = true then (Hs (k + 1)).get x else if (Hs k).nxt ≤ x ∧ x < (Hs (k + 1)).nxt then (Hs (k + 1)).get x else gk os Hs S k x := by simp only [gk, h, hyo]
theorem gk_same {k x : Nat} {yo : XO} (hyo : os[k]? = some yo) (hE : kindE yo.op = false) (hh : Hs (k + 1) = Hs k) : gk os Hs S (k + 1) x = gk os Hs S k x := by
  cases hS : S k with
  | false => exact gk_false hS
  | true => rw [gk_true hS hyo, if_neg (by rw [hE]; simp), if_neg (by rw [hh]; omega)]
theorem nxt_mono (hm : ∀ k, k < os.length → (Hs k).nxt ≤ (Hs (k + 1)).nxt) : ∀ {j k}, j ≤ k → k ≤ os.length → (Hs j).nxt ≤ (Hs k).nxt := by
  intro j k hjk
  induction k with
  | zero => intro _; obtain rfl : j = 0 := (by omega); exact Nat.le_refl _
  | succ k ih =>
    intro hk
    by_cases e : j = k + 1
    · subst e; exact Nat.le_refl _
    · exact Nat.le_trans (ih (by omega) (by omega)) (hm k (by omega))
theorem os_get {k : Nat} (h : k < os.length) : ∃ yo, os[k]? = some yo := ⟨os[k], List.getElem?_eq_getElem h⟩
/-- Ahead of an operation with an effect the heap is that of the text's order, but for what was made early. -/
theorem gk_E1 (hcan : Can P C n ops pre os Ts Hs vs) (hn : Now pre os.length S i) (hxo : os[i]? = some xo) (hE : kindE xo.op = true) : ∀ k, k ≤ i → ∀ x, gk os Hs S k x = (Hs k).get x := by
  intro k
  induction k with
  | zero => intro _ x; rfl
  | succ k ih =>
    intro hk x
    have ih := ih (by omega) x
    have hlt := hn.lt
    obtain ⟨yo, hyo⟩ := os_get (os := os) (show k < os.length by omega)
    cases hEy : kindE yo.op with
    | true =>
      have hS := hn.ahead k (hcan.d4 i k xo yo hxo hyo (by omega) hE (.inl hEy))
      rw [gk_true hS hyo, if_pos hEy]
    | false =>
      rcases heapstep hcan hyo hEy with hh | ⟨hA, _, cs, hh⟩
      · rw [gk_same hyo hEy hh, ih, hh]
      · have hS := hn.ahead k (hcan.d4 i k xo yo hxo hyo (by omega) hE (.inr hA))
        rw [gk_true hS hyo, if_neg (by rw [hEy]; simp)]
        split
        · rfl
        · rename_i hr
          rw [ih, hh, push_get, if_neg]
          intro e
          apply hr
          rw [hh, e]
          exact ⟨Nat.le_refl _, Nat.lt_succ_self _⟩
theorem later_noE (hcan : Can P C n ops pre os Ts Hs vs) (hn : Now pre os.length S i) (hxo : os[i]? = some xo) (hEA : kindE xo.op = true ∨ kindA xo.op = true) {k : Nat} {yo : XO} (hk : i < k) (hkm : k < os.length) (hyo : os[k]? = some yo) (hS : S k = true) : kindE yo.op = false := by
  cases hEy : kindE yo.op with
  | false => rfl
  | true =>
    have h1 := hcan.d4 k i yo xo hyo hxo hk hEy hEA
    rw [hn.not_pre hkm hS] at h1
    cases h1
theorem gk_E2 (hcan : Can P C n ops pre os Ts Hs vs) (hm : ∀ k, k < os.length → (Hs k).nxt ≤ (Hs (k + 1)).nxt) (hn : Now pre os.length S i) (hxo : os[i]? = some xo) (hE : kindE xo.op = true) {x : Nat} (hx : x < (Hs i).nxt) : gk os Hs S os.length x = (Hs i).get x := by
  have key : ∀ k, i ≤ k → k ≤ os.length → gk os Hs S k x = (Hs i).get x := by
    intro k
    induction k with
    | zero => intro h _; obtain rfl : i = 0 := (by omega); rfl
    | succ k ih =>
      intro h1 h2
      by_cases e : i = k + 1
      · subst e; exact gk_E1 hcan hn hxo hE _ (Nat.le_refl _) x
      · have ih := ih (by omega) (by omega)
        obtain ⟨yo, hyo⟩ := os_get (os := os) (show k < os.length by omega)
        cases hS : S k with
        | false => rw [gk_false hS]; exact ih
        | true =>
          have hne : k ≠ i := fun e => by rw [e, hn.not] at hS; cases hS
          have hEy := later_noE hcan hn hxo (.inl hE) (by omega) (by omega) hyo hS
          rw [gk_true hS hyo, if_neg (by rw [hEy]; simp), if_neg]
          · exact ih
          · have := nxt_mono hm (show i ≤ k by omega) (by omega)
            omega
  exact key os.length (Nat.le_of_lt hn.lt) (Nat.le_refl _)
theorem gk_before : ∀ k, k ≤ i → ∀ x, gk os Hs (with_ S i) k x = gk os Hs S k x := by
  intro k
  induction k with
  | zero => intro _ x; rfl
  | succ k ih =>
    intro hk x
    have ih := ih (by omega) x
    simp only [gk, with_ne (S := S) (show k ≠ i by omega), ih]
/-- Behind an operation with an effect. -/
theorem gk_E3 (hcan : Can P C n ops pre os Ts Hs vs) (hm : ∀ k, k < os.length → (Hs k).nxt ≤ (Hs (k + 1)).nxt) (hw : ∀ k, k ≤ os.length → ∀ x ob, (Hs k).get x = some ob → x < (Hs k).nxt) (hn : Now pre os.length S i) (hxo : os[i]? = some xo) (hE : kindE xo.op = true) (x : Nat) :
    gk os Hs (with_ S i) os.length x = if x < (Hs (i + 1)).nxt then (Hs (i + 1)).get x else gk os Hs S os.length x := by
  have hlt := hn.lt
  have none_of : ∀ k, k ≤ os.length → (Hs k).nxt ≤ x → (Hs k).get x = none := by
    intro k hk hx
    cases h : (Hs k).get x with
    | none => rfl
    | some ob => have := hw k hk x ob h; omega
  have key : ∀ k, i < k → k ≤ os.length → gk os Hs (with_ S i) k x = if x < (Hs (i + 1)).nxt then (Hs (i + 1)).get x else gk os Hs S k x := by
    intro k
    induction k with
    | zero => intro h; omega
    | succ k ih =>
      intro h1 h2
      by_cases e : k = i
      · subst e
        rw [gk_true with_self hxo, if_pos hE, gk_false hn.not, gk_E1 hcan hn hxo hE k (Nat.le_refl _) x]
        split
        · rfl
        · rename_i hx
          have := hm k hlt
          rw [none_of (k + 1) (by omega) (by omega), none_of k (by omega) (by omega)]
      · have ih := ih (by omega) (by omega)
        obtain ⟨yo, hyo⟩ := os_get (os := os) (show k < os.length by omega)
        cases hS : S k with
        | false => rw [gk_false (by rw [with_ne e]; exact hS), gk_false hS]; exact ih
        | true =>
          have hEy := later_noE hcan hn hxo (.inl hE) (by omega) (by omega) hyo hS
          rw [gk_true (by rw [with_ne e]; exact hS) hyo, gk_true hS hyo]
          simp only [hEy, Bool.false_eq_true, if_false]
          by_cases hr : (Hs k).nxt ≤ x ∧ x < (Hs (k + 1)).nxt
          · have := nxt_mono hm (show i + 1 ≤ k by omega) (by omega)
            rw [if_pos hr, if_pos hr, if_neg (by omega)]
          · rw [if_neg hr, if_neg hr]
            exact ih
  exact key os.length hlt (Nat.le_refl _)
/-- Behind an operation without. -/
theorem gk_N (hcan : Can P C n ops pre os Ts Hs vs) (hm : ∀ k, k < os.length → (Hs k).nxt ≤ (Hs (k + 1)).nxt) (hn : Now pre os.length S i) (hxo : os[i]? = some xo) (hE : kindE xo.op = false) (x : Nat) :
    gk os Hs (with_ S i) os.length x = if (Hs i).nxt ≤ x ∧ x < (Hs (i + 1)).nxt then (Hs (i + 1)).get x else gk os Hs S os.length x := by
  have hlt := hn.lt
  have key : ∀ k, i < k → k ≤ os.length → gk os Hs (with_ S i) k x = if (Hs i).nxt ≤ x ∧ x < (Hs (i + 1)).nxt then (Hs (i + 1)).get x else gk os Hs S k x := by
    intro k
    induction k with
    | zero => intro h; omega
    | succ k ih =>
      intro h1 h2
      by_cases e : k = i
      · subst e
        rw [gk_true with_self hxo, if_neg (by rw [hE]; simp), gk_false hn.not, gk_before k (Nat.le_refl _)]
      · have ih := ih (by omega) (by omega)
        obtain ⟨yo, hyo⟩ := os_get (os := os) (show k < os.length by omega)
        cases hS : S k with
        | false => rw [gk_false (by rw [with_ne e]; exact hS), gk_false hS]; exact ih
        | true =>
          rw [gk_true (by rw [with_ne e]; exact hS) hyo, gk_true hS hyo]
          cases hEy : kindE yo.op with
          | true =>
            rw [if_pos rfl, if_pos rfl, if_neg]
            intro hr
            rcases heapstep hcan hxo hE with hh | ⟨hA, _, _⟩
            · rw [hh] at hr; omega
            · have := later_noE hcan hn hxo (.inr hA) (by omega) (by omega) hyo hS
              rw [hEy] at this
              cases this
          | false =>
            simp only [Bool.false_eq_true, if_false]
            by_cases hr : (Hs k).nxt ≤ x ∧ x < (Hs (k + 1)).nxt
            · rw [if_pos hr, if_pos hr]
              have := nxt_mono hm (show i + 1 ≤ k by omega) (by omega)
              rw [if_neg (by omega)]
            · rw [if_neg hr, if_neg hr]
              exact ih
  exact key os.length hlt (Nat.le_refl _)
/-- What an operation reads is what it reads in the text's order. -/
theorem gk_L (hcan : Can P C n ops pre os Ts Hs vs) (hn : Now pre os.length S i) (hxo : os[i]? = some xo) (hwx : wanted (Ts i) xo.guard = true) {x : Nat} (hr : Reads (Ts i) xo.op x) : gk os Hs S os.length x = (Hs i).get x := by
  have hlt := hn.lt
  -- an operation without an order to it leaves x alone
  have quiet : ∀ k, k < os.length → k ≠ i → pre_ pre i k = false → pre_ pre k i = false → (Hs (k + 1)).get x = (Hs k).get x := by
    intro k hk hki h1 h2
    obtain ⟨yo, hyo⟩ := os_get (os := os) hk
    cases hEy : kindE yo.op with
    | true =>
      rcases hcan.step k yo hyo with ⟨hw, _⟩ | ⟨_, _, hh⟩
      · rcases hcan.stE i k xo yo x hxo hyo hwx hw hr hEy with h3 | h3 | h3
        · rw [h1] at h3; cases h3
        · rw [h2] at h3; cases h3
        · exact h3
      · rw [hh]
    | false =>
      rcases heapstep hcan hyo hEy with hh | ⟨hA, hw, cs, hh⟩
      · rw [hh]
      · rcases hcan.stA i k xo yo x hxo hyo hwx hw hr hA with h3 | h3 | h3
        · rw [h1] at h3; cases h3
        · rw [h2] at h3; cases h3
        · rw [hh, push_get, if_neg h3]
  have noafter : ∀ k, k < os.length → i < k → pre_ pre i k = false := by
    intro k hk hik
    cases hp : pre_ pre i k with
    | false => rfl
    | true => have := pre_lt hcan i hlt k hp; omega
  have key : ∀ k, k ≤ os.length → gk os Hs S k x = (Hs (min k i)).get x := by
    intro k
    induction k with
    | zero => intro _; simp [gk]
    | succ k ih =>
      intro hk
      have ih := ih (by omega)
      obtain ⟨yo, hyo⟩ := os_get (os := os) (show k < os.length by omega)
      by_cases hki : k < i
      · rw [Nat.min_eq_left (by omega)]
        rw [Nat.min_eq_left (by omega)] at ih
        cases hS : S k with
        | false =>
          have h1 : pre_ pre i k = false := by
            cases hp : pre_ pre i k with
            | false => rfl
            | true => have := hn.ahead k hp; rw [hS] at this; cases this
          have h2 : pre_ pre k i = false := by
            cases hp : pre_ pre k i with
            | false => rfl
            | true => have := pre_lt hcan k (by omega) i hp; omega
          rw [gk_false hS, ih, quiet k (by omega) (by omega) h1 h2]
        | true =>
          rw [gk_true hS hyo]
          cases hEy : kindE yo.op with
          | true => rw [if_pos rfl]
          | false =>
            simp only [Bool.false_eq_true, if_false]
            rcases heapstep hcan hyo hEy with hh | ⟨_, _, cs, hh⟩
            · rw [if_neg (by rw [hh]; omega), ih, hh]
            · split
              · rfl
              · rename_i hrr
                rw [ih, hh, push_get, if_neg]
                intro e
                apply hrr
                rw [hh, e]
                exact ⟨Nat.le_refl _, Nat.lt_succ_self _⟩
      · rw [Nat.min_eq_right (by omega)]
        rw [Nat.min_eq_right (by omega)] at ih
        cases hS : S k with
        | false => rw [gk_false hS]; exact ih
        | true =>
          have hne : k ≠ i := fun e => by rw [e, hn.not] at hS; cases hS
          have hkm : k < os.length := by omega
          rw [gk_true hS hyo]
          cases hEy : kindE yo.op with
          | true =>
            rw [if_pos rfl]
            have chain : ∀ j, i ≤ j → j ≤ k + 1 → (Hs j).get x = (Hs i).get x := by
              intro j
              induction j with
              | zero => intro h1 _; obtain rfl : i = 0 := (by omega); rfl
              | succ j ihj =>
                intro h1 h2
                by_cases e : i = j + 1
                · rw [e]
                · have ihj := ihj (by omega) (by omega)
                  by_cases hji : j = i
                  · subst hji
                    -- the reading operation itself turns nothing
                    have hEx : kindE xo.op = false := by
                      obtain ⟨p, o, ⟨h3, _⟩ | ⟨h3, _⟩⟩ := hr
                      · rcases h3 with h3 | ⟨m, h3⟩ <;> rw [h3] <;> rfl
                      · rw [h3]; rfl
                    have hAx : kindA xo.op = false := by
                      obtain ⟨p, o, ⟨h3, _⟩ | ⟨h3, _⟩⟩ := hr
                      · rcases h3 with h3 | ⟨m, h3⟩ <;> rw [h3] <;> rfl
                      · rw [h3]; rfl
                    rcases heapstep hcan hxo hEx with hh | ⟨hA, _⟩
                    · rw [hh]
                    · rw [hAx] at hA; cases hA
                  · obtain ⟨zo, hzo⟩ := os_get (os := os) (show j < os.length by omega)
                    rw [← ihj]
                    -- what turns the heap there is done, too
                    have hq : S j = true → (Hs (j + 1)).get x = (Hs j).get x := fun hSj => quiet j (by omega) hji (noafter j (by omega) (by omega)) (hn.not_pre (by omega) hSj)
                    by_cases hjk : j = k
                    · subst hjk; exact hq hS
                    · cases hEz : kindE zo.op with
                      | true => exact hq (hn.closed k hkm hS j (hcan.d4 k j yo zo hyo hzo (by omega) hEy (.inl hEz)))
                      | false =>
                        rcases heapstep hcan hzo hEz with hh | ⟨hA, _⟩
                        · rw [hh]
                        · exact hq (hn.closed k hkm hS j (hcan.d4 k j yo zo hyo hzo (by omega) hEy (.inr hA)))
            exact chain (k + 1) (by omega) (Nat.le_refl _)
          | false =>
            simp only [Bool.false_eq_true, if_false]
            rcases heapstep hcan hyo hEy with hh | ⟨hA, hw, cs, hh⟩
            · rw [if_neg (by rw [hh]; omega)]; exact ih
            · rw [if_neg]
              · exact ih
              · intro hrr
                rcases hcan.stA i k xo yo x hxo hyo hwx hw hr hA with h3 | h3 | h3
                · rw [noafter k hkm (by omega)] at h3; cases h3
                · rw [hn.not_pre hkm hS] at h3; cases h3
                · rw [hh] at hrr
                  simp only [Heap.push] at hrr
                  omega
  rw [key os.length (Nat.le_refl _), Nat.min_eq_right (Nat.le_of_lt hlt)]
/-- When all is done. -/
theorem gk_all (hcan : Can P C n ops pre os Ts Hs vs) (hS : ∀ k, k < os.length → S k = true) : ∀ k, k ≤ os.length → ∀ x, gk os Hs S k x = (Hs k).get x := by
  intro k
  induction k with
  | zero => intro _ x; rfl
  | succ k ih =>
    intro hk x
    have ih := ih (by omega) x
    obtain ⟨yo, hyo⟩ := os_get (os := os) (show k < os.length by omega)
    rw [gk_true (hS k (by omega)) hyo]
    cases hEy : kindE yo.op with
    | true => rw [if_pos rfl]
    | false =>
      simp only [Bool.false_eq_true, if_false]
      rcases heapstep hcan hyo hEy with hh | ⟨_, _, cs, hh⟩
      · rw [if_neg (by rw [hh]; omega), ih, hh]
      · split
        · rfl
        · rename_i hrr
          rw [ih, hh, push_get, if_neg]
          intro e
          apply hrr
          rw [hh, e]
          exact ⟨Nat.le_refl _, Nat.lt_succ_self _⟩
end
end Go.Proofs.Ytjjglonmaajjoaa.AX
namespace Go.Proofs.Ytjjglonmaajjoaa.AX
open Go

section
variable {P : Program} {o : Oper} {a : Act} {w : World} {ρ : Map} {n : Nat} {T : Tm} {H H' : Heap} {v : Value}
/-- What making a block comes to. -/
def Makes (P : Program) (o : Oper) (a : Act) (w : World) (ρ : Map) (H : Heap) (v : Value) (H' : Heap) : Prop :=
  ∃ (cs : List Value) (arr : Array Value) (e : TypeId) (vf : Nat → Value), H' = H.push cs ∧ cs.length ≤ arr.size ∧ (∀ (j : Nat) (c : Value), cs[j]? = some c → ∃ c', arr[j]? = some c' ∧ VL ρ c c') ∧
    (execOp a.eval o).run P w = .ok (.value (vf w.heap.size)) (w.alloc (.cells arr e)) ∧ ∀ (ρ' : Map) (g : Nat), ρ' H.nxt = some (⟨g, 0, none⟩, arr.size) → VR ρ' v (vf g)
theorem vr_ptr0 {ρ' : Map} {i g L : Nat} (h : ρ' i = some (⟨g, 0, none⟩, L)) : VR ρ' (.pointer (some ⟨i, 0, none⟩)) (.pointer (some ⟨g, 0, none⟩)) := by
  have := VL.ptr (o := 0) h
  exact .one (.leaf (by simpa [Addr.add] using this))
theorem p_new {e : TypeId} {zs : List Value} (ho : o.op = .alloc e) (hz : czero P e = some zs) (hfl : ∀ z ∈ zs, flatB z = true) (hs : step T H (.new zs) = some (v, H')) : Makes P o a w ρ H v H' := by
  simp only [step, Option.some.injEq, Prod.mk.injEq] at hs
  obtain ⟨rfl, rfl⟩ := hs
  simp only [czero, Option.bind_eq_some_iff, Option.map_eq_some_iff] at hz
  obtain ⟨i, hi, z, hz, rfl⟩ := hz
  refine ⟨z.cells.toList, z.cells, e, fun g => .pointer (some ⟨g, 0, none⟩), rfl, by simp, fun j c hj => ⟨c, by simpa using hj, .flat (hfl c (List.mem_of_getElem? hj))⟩, ?_, fun ρ' g h => vr_ptr0 h⟩
  simp [execOp, ho, Instr.alloc, zeroValue, typeInfo, hi, hz, newVar, newRow]
theorem p_box {e : TypeId} {x : Operand} {y : XArg} (ho : o.op = .box e x) (hx : carg n x = some y) (hT : TRel ρ n T a) (hs : step T H (.box y) = some (v, H')) : Makes P o a w ρ H v H' := by
  have h1 := ev_sound hx hT
  simp only [step] at hs
  split at hs
  · rename_i hne
    simp only [Option.some.injEq, Prod.mk.injEq] at hs
    obtain ⟨rfl, rfl⟩ := hs
    have hc := h1.cells_ hne
    refine ⟨_, (a.eval x).cells, e, fun g => .pointer (some ⟨g, 0, none⟩), rfl, by rw [hc.length, ← vcells_eq]; simp, fun j c hj => ?_, ?_, fun ρ' g h => vr_ptr0 h⟩
    · obtain ⟨c', h2, h3⟩ := hc.get j c hj
      exact ⟨c', by rw [← vcells_eq] at h2; simpa using h2, h3⟩
    · simp [execOp, ho, Instr.box, newVar, newRow]
  · cases hs
theorem fillA_len : ∀ (qs : List (Nat × Nat × Value)) (cs out : List Value), Zeq cs qs = some out → out.length = cs.length := by
  intro qs
  induction qs with
  | nil => intro cs out h; simp only [Zeq, Option.some.injEq] at h; rw [h]
  | cons q qs ih =>
    intro cs out h
    obtain ⟨off, size, u⟩ := q
    simp only [Zeq] at h
    split at h
    · rename_i hc
      rw [ih _ _ h, wr]
      simp
      omega
    · cases h
theorem p_bsl {t e : TypeId} {len : Nat} {parts : Array (Nat × Operand)} {i : TypeInfo} {z : Value} {ps : List (Nat × Nat × XArg)} (ho : o.op = .buildSlice t len parts) (hu : P.underlying t = some (.slice e)) (hi : P.info? e = some i) (hz : i.zero = some z)
    (hfl : ∀ x ∈ z.cells.toList, flatB x = true) (hsm : ¬ len * i.size > 2 ^ 24) (hps : cparts n (fun j => some (j * i.size, i.size)) parts.toList = some ps)
    (hT : TRel ρ n T a) (hs : step T H (.bsl i.size len ((List.range (len * i.size)).map fun j => z.cells[j % z.cells.size]!) ps) = some (v, H')) : Makes P o a w ρ H v H' := by
  simp only [step, Option.map_eq_some_iff, Prod.mk.injEq] at hs
  obtain ⟨out, hf, rfl, rfl⟩ := hs
  have hzz : All2 (VL ρ) ((List.range (len * i.size)).map fun j => z.cells[j % z.cells.size]!) ((Array.range (len * i.size)).map (z.cells[· % z.cells.size]!)).toList := by
    simp only [Array.toList_map, Array.toList_range]
    refine All2.map_same _ (fun j _ => .flat ?_)
    rcases Nat.lt_or_ge (j % z.cells.size) z.cells.size with h | h
    · rw [getElem!_pos z.cells _ h]; exact hfl _ (by simp)
    · rw [getElem!_neg z.cells _ (by omega)]; rfl
  obtain ⟨arr', h1, h2⟩ := fill_sound hT _ parts.toList ps _ _ out hps hzz hf
  have hln := h2.length
  have hout : out.length = len * i.size := by rw [fillA_len _ _ _ hf]; simp
  refine ⟨out, arr', e, fun g => .slice (some ⟨g, 0, none⟩) len len, rfl, by rw [hln]; simp, fun j c hj => ?_, ?_, fun ρ' g h => ?_⟩
  · obtain ⟨c', h3, h4⟩ := h2.get j c hj
    exact ⟨c', by simpa using h3, h4⟩
  · by_cases h0 : len * i.size = 0
    · have h1' : Instr.fill (fun j => some (j * i.size, i.size)) #[] (parts.map fun (i, x) => (i, a.eval x)).toList = some arr' := by
        have e0 : ((Array.range (len * i.size)).map (z.cells[· % z.cells.size]!)) = #[] := by rw [h0]; simp
        rw [e0] at h1
        simpa using h1
      simp [execOp, ho, Instr.buildSlice, run_underlying hu, sizeOf, typeInfo, hi, h0, newRow]
      have e1 : Array.map (fun _ : Nat => (default : Value)) (Array.range 0) = #[] := by simp
      have h1'' : Instr.fill (fun j => some (j * i.size, i.size)) #[] (List.map (fun x => (x.fst, a.eval x.snd)) parts.toList) = some arr' := by simpa using h1'
      rw [e1, h1'']
      simp
    · have := run_buildSlice w t e len (parts.map fun (i, x) => (i, a.eval x)) arr' i z hu hi hz hsm h0 (by simpa using h1)
      simp [execOp, ho, this]
  · have := VL.slc (o := 0) (n := len) (c := len) (sz := i.size) h (Nat.le_refl _) (by rw [← Array.length_toList, ← hln, hout]; omega)
    exact .one (.leaf (by simpa [Addr.add] using this))
theorem p_mks {t e : TypeId} {l c : Operand} {i : TypeInfo} {z : Value} {l' c' : XArg} (ho : o.op = .makeSlice t l c) (hu : P.underlying t = some (.slice e)) (hi : P.info? e = some i) (hz : i.zero = some z) (hzs : z.cells.size = i.size) (hs0 : 0 < i.size) (hb0 : 0 < i.bytes) (hfl : ∀ x ∈ z.cells.toList, flatB x = true)
    (hl : carg n l = some l') (hc : carg n c = some c') (hT : TRel ρ n T a) (hs : step T H (.mks i.size i.bytes z.cells.toList l' c') = some (v, H')) : Makes P o a w ρ H v H' := by
  have h1 := ev_sound hl hT
  have h2 := ev_sound hc hT
  simp only [step] at hs
  split at hs
  · rename_i x y he1 he2
    split at hs
    · rename_i hcond
      obtain ⟨hx0, hxy, hy63, hby⟩ := hcond
      simp only [Option.some.injEq, Prod.mk.injEq] at hs
      obtain ⟨rfl, rfl⟩ := hs
      rw [he1] at h1
      rw [he2] at h2
      have e1 := h1.int
      have e2 := h2.int
      obtain ⟨m, rfl⟩ : ∃ m : Nat, x = m := ⟨x.toNat, by omega⟩
      obtain ⟨k, rfl⟩ : ∃ k : Nat, y = k := ⟨y.toNat, by omega⟩
      have wm : IntKind.i64.wrap (m : Int) = m := wrap_nat (by omega)
      have wk : IntKind.i64.wrap (k : Int) = k := wrap_nat (by omega)
      have hbm : (i.bytes : Int) * (m : Int) ≤ (i.bytes : Int) * (k : Int) := Int.mul_le_mul_of_nonneg_left hxy (by omega)
      let arr : Array Value := (Array.range (k * i.size)).map ((if k * i.size = 0 then #[] else z.cells)[· % (if k * i.size = 0 then #[] else z.cells).size]!)
      have hrun : (Instr.makeSlice t (.int .i64 m) (.int .i64 k)).run P w = .ok (.slice (some ⟨w.heap.size, 0, none⟩) m k) (w.alloc (.cells arr e)) := by
        have hn1 : ¬ (281474976710656 < (i.bytes : Int) * (k : Int)) := by omega
        have hn4 : ¬ (k : Int) < (m : Int) := by omega
        by_cases h0 : k * i.size = 0
        · simp [Instr.makeSlice, run_underlying hu, asInt, asIntOf, typeInfo, hi, wm, wk, hn1, hn4, askRoom, sizeOf, h0, newRow, arr]
          exact fun h => by omega
        · simp [Instr.makeSlice, run_underlying hu, asInt, asIntOf, typeInfo, hi, wm, wk, hn1, hn4, askRoom, sizeOf, h0, zeroValue, hz, newRow, arr]
          exact fun h => by omega
      have hlen : ((List.replicate m z.cells.toList).flatten).length = m * i.size := by rw [flat_rep_len]; simp [hzs]
      have hmk : m * i.size ≤ k * i.size := Nat.mul_le_mul_right _ (by omega)
      refine ⟨(List.replicate m z.cells.toList).flatten, arr, e, fun g => .slice (some ⟨g, 0, none⟩) m k, rfl, by rw [hlen]; simp [arr]; exact hmk, fun j c hj => ?_, ?_, fun ρ' g h => ?_⟩
      · have hjl := (List.getElem?_eq_some_iff.1 hj).1
        rw [hlen] at hjl
        rw [flat_rep _ _ _ (by simpa [hzs] using hjl)] at hj
        refine ⟨c, ?_, .flat (hfl c (List.mem_of_getElem? hj))⟩
        have h0 : ¬ k * i.size = 0 := by omega
        have hlt : j % z.cells.size < z.cells.size := Nat.mod_lt _ (by omega)
        simp only [arr, h0, if_false]
        rw [Array.getElem?_map]
        have hjr : j < k * i.size := by omega
        simp only [Array.getElem?_range, hjr, if_true, Option.map_some]
        simp only [Array.length_toList, Array.getElem?_toList] at hj
        rw [getElem!_pos z.cells _ hlt]
        rw [Array.getElem?_eq_getElem hlt] at hj
        exact hj
      · simp [execOp, ho, e1, e2, hrun]
      · have := VL.slc (o := 0) (n := m) (c := k) (sz := i.size) h (by omega) (by simp [arr])
        exact .one (.leaf (by simpa [Addr.add] using this))
    · cases hs
  · cases hs
theorem push_run {xo : XOp} (hc : cop P n o.op = some xo) (hA : kindA xo = true) (hT : TRel ρ n T a) (hs : step T H xo = some (v, H')) : Makes P o a w ρ H v H' := by
  cases hop : o.op with
  | move x =>
    rw [hop] at hc
    simp only [cop, Option.map_eq_some_iff] at hc
    obtain ⟨y, hy, rfl⟩ := hc
    cases hA
  | assign x =>
    rw [hop] at hc
    simp only [cop, Option.map_eq_some_iff] at hc
    obtain ⟨y, hy, rfl⟩ := hc
    cases hA
  | pick c x y =>
    rw [hop] at hc
    simp only [cop, Option.bind_eq_bind, Option.bind_eq_some_iff, Option.pure_def, Option.some.injEq] at hc
    obtain ⟨c', hc', x', hx', y', hy', rfl⟩ := hc
    cases hA
  | alloc e =>
    rw [hop] at hc
    simp only [cop, Option.bind_eq_some_iff] at hc
    obtain ⟨zs, hz, hc⟩ := hc
    split at hc
    · rename_i hf
      injection hc with hc
      subst hc
      exact p_new hop hz (all_flat hf) hs
    · cases hc
  | box e x =>
    rw [hop] at hc
    simp only [cop, Option.map_eq_some_iff] at hc
    obtain ⟨y, hy, rfl⟩ := hc
    exact p_box hop hy hT hs
  | build t parts =>
    rw [hop] at hc
    simp only [cop] at hc
    split at hc
    · rename_i fs hu
      simp only [Option.bind_eq_bind, Option.bind_eq_some_iff] at hc
      obtain ⟨zs, hz, places, hp, ps, hps, hc⟩ := hc
      split at hc
      · rename_i hf
        injection hc with hc
        subst hc
        cases hA
      · cases hc
    · cases hc
  | buildSlice t len parts =>
    rw [hop] at hc
    simp only [cop] at hc
    split at hc
    · rename_i e hu
      simp only [Option.bind_eq_bind, Option.bind_eq_some_iff] at hc
      obtain ⟨i, hi, z, hz, hc⟩ := hc
      split at hc
      · cases hc
      · rename_i hcond
        simp only [Option.bind_eq_some_iff, Option.pure_def, Option.some.injEq] at hc
        obtain ⟨ps, hps, rfl⟩ := hc
        have h1 : ¬ len * i.size > 2 ^ 24 := fun h => hcond (.inl h)
        have h2 : z.cells.toList.all flatB = true := Classical.byContradiction fun h => hcond (.inr h)
        exact p_bsl hop hu hi hz (all_flat h2) h1 hps hT hs
    · cases hc
  | load t p =>
    rw [hop] at hc
    simp only [cop, Option.bind_eq_bind, Option.bind_eq_some_iff] at hc
    obtain ⟨x, hx, ag, hag, hc⟩ := hc
    cases ag with
    | true =>
      simp only [Option.bind_eq_some_iff, Option.pure_def, Option.some.injEq] at hc
      obtain ⟨m, hm, rfl⟩ := hc
      cases hA
    | false =>
      simp only [Option.pure_def, Option.some.injEq] at hc
      subst hc
      cases hA
  | store t p x =>
    rw [hop] at hc
    simp only [cop, Option.bind_eq_bind, Option.bind_eq_some_iff, Option.pure_def, Option.some.injEq] at hc
    obtain ⟨m, hm, y, hy, z, hz, rfl⟩ := hc
    cases hA
  | nilCheck x =>
    rw [hop] at hc
    simp only [cop, Option.map_eq_some_iff] at hc
    obtain ⟨y, hy, rfl⟩ := hc
    cases hA
  | binOp op t x y yt =>
    rw [hop] at hc
    simp only [cop] at hc
    split at hc
    · simp only [Option.bind_eq_bind, Option.bind_eq_some_iff, Option.pure_def, Option.some.injEq] at hc
      obtain ⟨x', hx', y', hy', rfl⟩ := hc
      cases hA
    · simp only [Option.bind_eq_bind, Option.bind_eq_some_iff, Option.pure_def, Option.some.injEq] at hc
      obtain ⟨x', hx', y', hy', rfl⟩ := hc
      cases hA
    · simp only [Option.bind_eq_bind, Option.bind_eq_some_iff, Option.pure_def, Option.some.injEq] at hc
      obtain ⟨x', hx', y', hy', rfl⟩ := hc
      cases hA
    · rename_i hu
      split at hc
      · simp only [Option.bind_eq_bind, Option.bind_eq_some_iff, Option.pure_def, Option.some.injEq] at hc
        obtain ⟨x', hx', y', hy', rfl⟩ := hc
        cases hA
      · simp only [Option.bind_eq_bind, Option.bind_eq_some_iff, Option.pure_def, Option.some.injEq] at hc
        obtain ⟨x', hx', y', hy', rfl⟩ := hc
        cases hA
      · cases hc
    · rename_i fs hu
      split at hc
      · cases hc
      · split at hc
        · simp only [Option.bind_eq_bind, Option.bind_eq_some_iff, Option.pure_def, Option.some.injEq] at hc
          obtain ⟨os, hos, x', hx', y', hy', rfl⟩ := hc
          cases hA
        · simp only [Option.bind_eq_bind, Option.bind_eq_some_iff, Option.pure_def, Option.some.injEq] at hc
          obtain ⟨os, hos, x', hx', y', hy', rfl⟩ := hc
          cases hA
        · cases hc
    · cases hc
  | unOp op t x =>
    rw [hop] at hc
    simp only [cop, Option.map_eq_some_iff] at hc
    obtain ⟨y, hy, rfl⟩ := hc
    cases hA
  | convert s d x =>
    rw [hop] at hc
    simp only [cop] at hc
    split at hc
    · rename_i k0 k hs0 hd
      simp only [Option.map_eq_some_iff] at hc
      obtain ⟨y, hy, rfl⟩ := hc
      cases hA
    · rename_i k0 k hs0 hd
      simp only [Option.map_eq_some_iff] at hc
      obtain ⟨y, hy, rfl⟩ := hc
      cases hA
    · rename_i k0 k hs0 hd
      split at hc
      · simp only [Option.map_eq_some_iff] at hc
        obtain ⟨y, hy, rfl⟩ := hc
        cases hA
      · cases hc
    · rename_i e hs0 hd
      split at hc
      · simp only [Option.map_eq_some_iff] at hc
        obtain ⟨y, hy, rfl⟩ := hc
        cases hA
      · cases hc
    · cases hc
  | makeSlice t l c =>
    rw [hop] at hc
    simp only [cop] at hc
    split at hc
    · rename_i e hu
      simp only [Option.bind_eq_bind, Option.bind_eq_some_iff] at hc
      obtain ⟨i, hi, z, hz, hc⟩ := hc
      split at hc
      · rename_i hcond
        simp only [Option.bind_eq_some_iff, Option.pure_def, Option.some.injEq] at hc
        obtain ⟨l', hl', c', hc', rfl⟩ := hc
        exact p_mks hop hu hi hz hcond.1 hcond.2.1 hcond.2.2.1 (all_flat hcond.2.2.2) hl' hc' hT hs
      · cases hc
    · cases hc
  | slice t x lo hi mx =>
    rw [hop] at hc
    simp only [cop] at hc
    split at hc
    · rename_i e hu
      simp only [Option.bind_eq_bind, Option.bind_eq_some_iff, Option.pure_def, Option.some.injEq] at hc
      obtain ⟨m, hm, x', hx', lo', hlo, hi', hhi, mx', hmx, rfl⟩ := hc
      cases hA
    · rename_i hu
      split at hc
      · simp only [Option.bind_eq_bind, Option.bind_eq_some_iff, Option.pure_def, Option.some.injEq] at hc
        obtain ⟨x', hx', lo', hlo, hi', hhi, rfl⟩ := hc
        cases hA
      · cases hc
    · cases hc
  | fieldAddr s x f =>
    rw [hop] at hc
    simp only [cop] at hc
    split at hc
    · rename_i fs hu
      simp only [Option.bind_eq_bind, Option.bind_eq_some_iff] at hc
      obtain ⟨fd, hf, m, hm, hc⟩ := hc
      split at hc
      · cases hc
      · rename_i hm0
        simp only [Option.bind_eq_some_iff, Option.pure_def, Option.some.injEq] at hc
        first
          | (obtain ⟨y, hy, rfl⟩ := hc
             cases hA)
          | (obtain ⟨_, y, hy, rfl⟩ := hc
             cases hA)
    · cases hc
  | field s x f =>
    rw [hop] at hc
    simp only [cop] at hc
    split at hc
    · rename_i fs hu
      simp only [Option.bind_eq_bind, Option.bind_eq_some_iff] at hc
      obtain ⟨fd, hf, ag, hag, hc⟩ := hc
      cases ag with
      | true =>
        simp only [Option.bind_eq_some_iff, Option.pure_def, Option.some.injEq] at hc
        obtain ⟨m, hm, y, hy, rfl⟩ := hc
        cases hA
      | false =>
        simp only [Option.bind_eq_some_iff, Option.pure_def, Option.some.injEq] at hc
        obtain ⟨y, hy, rfl⟩ := hc
        cases hA
    · cases hc
  | indexAddr t x i =>
    rw [hop] at hc
    simp only [cop] at hc
    split at hc
    · rename_i e hu
      simp only [Option.bind_eq_bind, Option.bind_eq_some_iff, Option.pure_def, Option.some.injEq] at hc
      obtain ⟨m, hm, y, hy, z, hz, rfl⟩ := hc
      cases hA
    · rename_i len e hu
      simp only [Option.bind_eq_bind, Option.bind_eq_some_iff, Option.pure_def, Option.some.injEq] at hc
      obtain ⟨m, hm, y, hy, z, hz, rfl⟩ := hc
      cases hA
    · cases hc
  | index t x i =>
    rw [hop] at hc
    simp only [cop] at hc
    split at hc
    · rename_i hu
      simp only [Option.bind_eq_bind, Option.bind_eq_some_iff, Option.pure_def, Option.some.injEq] at hc
      obtain ⟨y, hy, z, hz, rfl⟩ := hc
      cases hA
    · cases hc
  | extract x i =>
    rw [hop] at hc
    simp only [cop, Option.map_eq_some_iff] at hc
    obtain ⟨y, hy, rfl⟩ := hc
    cases hA
  | call c =>
    rw [hop] at hc
    obtain ⟨callee, args, ats⟩ := c
    cases callee with
    | value f =>
      cases f with
      | func f =>
        simp only [cop] at hc
        split at hc
        · split at hc
          · cases hc
          · simp only [Option.map_eq_some_iff] at hc
            obtain ⟨ys, _, rfl⟩ := hc
            cases hA
        · cases hc
      | tmp t =>
        simp only [cop] at hc
        split at hc
        · simp only [Option.map_eq_some_iff] at hc
          obtain ⟨ys, _, rfl⟩ := hc
          cases hA
        · cases hc
      | _ => simp [cop] at hc
    | invoke r m => simp [cop] at hc
    | builtin b =>
      cases b with
      | len =>
        simp only [cop] at hc
        split at hc
        · rename_i x e hargs hu
          simp only [Option.map_eq_some_iff] at hc
          obtain ⟨y, hy, rfl⟩ := hc
          simp only [Option.bind_eq_some_iff] at hu
          obtain ⟨t, ht, hu⟩ := hu
          have ha : args = #[x] := by rw [← Array.toList_inj]; exact hargs
          subst ha
          cases hA
        · rename_i x hargs hu
          simp only [Option.map_eq_some_iff] at hc
          obtain ⟨y, hy, rfl⟩ := hc
          simp only [Option.bind_eq_some_iff] at hu
          obtain ⟨t, ht, hu⟩ := hu
          have ha : args = #[x] := by rw [← Array.toList_inj]; exact hargs
          subst ha
          cases hA
        · cases hc
      | append =>
        simp only [cop] at hc
        split at hc
        · rename_i s x st xt hargs hats
          split at hc
          · rename_i e hu
            simp only [Option.bind_eq_bind, Option.bind_eq_some_iff] at hc
            obtain ⟨i, hi, z, hz, hc⟩ := hc
            split at hc
            · rename_i hcond
              simp only [Option.bind_eq_some_iff, Option.pure_def, Option.some.injEq] at hc
              obtain ⟨s', hs', x', hx', rfl⟩ := hc
              obtain ⟨rfl, h1, h2, h3⟩ := hcond
              have ha : args = #[s, x] := by rw [← Array.toList_inj]; exact hargs
              have hb : ats = #[st, st] := by rw [← Array.toList_inj]; exact hats
              subst ha
              subst hb
              cases hA
            · cases hc
          · cases hc
        · cases hc
      | max =>
        simp only [cop] at hc
        split at hc
        · rename_i x y hargs
          simp only [Option.bind_eq_bind, Option.bind_eq_some_iff, Option.pure_def, Option.some.injEq] at hc
          obtain ⟨x', hx', y', hy', rfl⟩ := hc
          have ha : args = #[x, y] := by rw [← Array.toList_inj]; exact hargs
          subst ha
          cases hA
        · cases hc
      | min =>
        simp only [cop] at hc
        split at hc
        · rename_i x y hargs
          simp only [Option.bind_eq_bind, Option.bind_eq_some_iff, Option.pure_def, Option.some.injEq] at hc
          obtain ⟨x', hx', y', hy', rfl⟩ := hc
          have ha : args = #[x, y] := by rw [← Array.toList_inj]; exact hargs
          subst ha
          cases hA
        · cases hc
      | _ => simp [cop] at hc
  | makeFunc g first caps =>
    rw [hop] at hc
    cases g with
    | func g =>
      simp only [cop] at hc
      split at hc
      · simp only [Option.map_eq_some_iff] at hc
        obtain ⟨ys, hys, rfl⟩ := hc
        cases hA
      · cases hc
    | _ => simp [cop] at hc
  | _ => rw [hop] at hc; simp [cop] at hc
end
/-! ### An operation looks at its own slots alone -/
theorem ev_congr {T T' : Tm} {x : XArg} (h : ∀ t ∈ argT x, T' t = T t) : ev T' x = ev T x := by
  cases x with
  | tmp t => exact h t (by simp [argT])
  | const v => rfl
theorem optT_congr {T T' : Tm} {x : Option XArg} (h : ∀ t ∈ optT x, T' t = T t) : ∀ y, x = some y → ev T' y = ev T y := by
  rintro y rfl
  exact ev_congr h
theorem bounds_congr {T T' : Tm} {l h m : Option XArg} (hl : ∀ y, l = some y → ev T' y = ev T y) (hh : ∀ y, h = some y → ev T' y = ev T y) (hm : ∀ y, m = some y → ev T' y = ev T y) (len cap : Nat) : bounds T' len cap l h m = bounds T len cap l h m := by
  cases l <;> cases h <;> cases m <;> simp only [bounds, bound]
  all_goals
    (try rw [hl _ rfl])
    (try rw [hh _ rfl])
    (try rw [hm _ rfl])
theorem step_congr {T T' : Tm} {H : Heap} {op : XOp} (h : ∀ t ∈ looks op, T' t = T t) : step T' H op = step T H op := by
  cases op <;> simp only [looks, List.mem_append] at h <;> simp only [step]
  case mov x => rw [ev_congr h]
  case pick c a b => rw [ev_congr (x := c) (fun t ht => h t (.inl (.inl ht))), ev_congr (x := a) (fun t ht => h t (.inl (.inr ht))), ev_congr (x := b) (fun t ht => h t (.inr ht))]
  case box x => rw [ev_congr h]
  case agg zs ps =>
    have e1 : ps.map (fun p => (p.1, p.2.1, ev T' p.2.2)) = ps.map (fun p => (p.1, p.2.1, ev T p.2.2)) := List.map_congr_left (fun p hp => by rw [ev_congr (x := p.2.2) (fun t ht => h t (List.mem_flatMap.2 ⟨p, hp, ht⟩))])
    rw [e1]
  case bsl sz len zs ps =>
    have e1 : ps.map (fun p => (p.1, p.2.1, ev T' p.2.2)) = ps.map (fun p => (p.1, p.2.1, ev T p.2.2)) := List.map_congr_left (fun p hp => by rw [ev_congr (x := p.2.2) (fun t ht => h t (List.mem_flatMap.2 ⟨p, hp, ht⟩))])
    rw [e1]
  case load1 p => rw [ev_congr h]
  case loadN n p => rw [ev_congr h]
  case store n p x => rw [ev_congr (x := p) (fun t ht => h t (.inl ht)), ev_congr (x := x) (fun t ht => h t (.inr ht))]
  case nilc x => rw [ev_congr h]
  case bin op x y => rw [ev_congr (x := x) (fun t ht => h t (.inl ht)), ev_congr (x := y) (fun t ht => h t (.inr ht))]
  case binB op x y => rw [ev_congr (x := x) (fun t ht => h t (.inl ht)), ev_congr (x := y) (fun t ht => h t (.inr ht))]
  case cmp ng os x y => rw [ev_congr (x := x) (fun t ht => h t (.inl ht)), ev_congr (x := y) (fun t ht => h t (.inr ht))]
  case un op x => rw [ev_congr h]
  case toInt k x => rw [ev_congr h]
  case toFlt k x => rw [ev_congr h]
  case fltOf k x => rw [ev_congr h]
  case mks sz b z x y => rw [ev_congr (x := x) (fun t ht => h t (.inl ht)), ev_congr (x := y) (fun t ht => h t (.inr ht))]
  case slc sz x l hh m =>
    rw [ev_congr (x := x) (fun t ht => h t (.inl (.inl (.inl ht))))]
    simp only [bounds_congr (T := T) (T' := T') (optT_congr (x := l) (fun t ht => h t (.inl (.inl (.inr ht))))) (optT_congr (x := hh) (fun t ht => h t (.inl (.inr ht)))) (optT_congr (x := m) (fun t ht => h t (.inr ht)))]
  case sstr x l hh =>
    rw [ev_congr (x := x) (fun t ht => h t (.inl (.inl ht)))]
    simp only [bounds_congr (T := T) (T' := T') (optT_congr (x := l) (fun t ht => h t (.inl (.inr ht)))) (optT_congr (x := hh) (fun t ht => h t (.inr ht))) (m := none) (fun y hy => by cases hy)]
  case fad o x => rw [ev_congr h]
  case fdv1 o x => rw [ev_congr h]
  case fdvN o n x => rw [ev_congr h]
  case idx sz x i => rw [ev_congr (x := x) (fun t ht => h t (.inl ht)), ev_congr (x := i) (fun t ht => h t (.inr ht))]
  case aidx len sz x i => rw [ev_congr (x := x) (fun t ht => h t (.inl ht)), ev_congr (x := i) (fun t ht => h t (.inr ht))]
  case sidx x i => rw [ev_congr (x := x) (fun t ht => h t (.inl ht)), ev_congr (x := i) (fun t ht => h t (.inr ht))]
  case ext i x => rw [ev_congr h]
  case len x => rw [ev_congr h]
  case lenS x => rw [ev_congr h]
  case b2s x => rw [ev_congr h]
  case app sz b s x => rw [ev_congr (x := s) (fun t ht => h t (.inl ht)), ev_congr (x := x) (fun t ht => h t (.inr ht))]
  case mm mx x y => rw [ev_congr (x := x) (fun t ht => h t (.inl ht)), ev_congr (x := y) (fun t ht => h t (.inr ht))]
  case clo f xs =>
    have e1 : xs.map (ev T') = xs.map (ev T) := List.map_congr_left (fun x hx => ev_congr (fun t ht => h t (List.mem_flatMap.2 ⟨x, hx, ht⟩)))
    have e2 : (xs.all fun x => oneCell (ev T' x) && noTup (ev T' x)) = (xs.all fun x => oneCell (ev T x) && noTup (ev T x)) := by
      rw [Bool.eq_iff_iff, List.all_eq_true, List.all_eq_true]
      constructor
      · intro h1 x hx
        have := h1 x hx
        rwa [ev_congr (fun t ht => h t (List.mem_flatMap.2 ⟨x, hx, ht⟩))] at this
      · intro h1 x hx
        rw [ev_congr (fun t ht => h t (List.mem_flatMap.2 ⟨x, hx, ht⟩))]
        exact h1 x hx
    rw [e1, e2]
theorem byts_congr {H H2 : Heap} {v : Value} (h : ∀ x o n sz, v = .slice (some ⟨x, o, none⟩) n sz → H2.get x = H.get x) : byts H2 v = byts H v := by
  cases v with
  | slice a n sz =>
    cases a with
    | none => cases n <;> cases sz <;> rfl
    | some ad =>
      obtain ⟨i, o, t⟩ := ad
      cases t with
      | none => simp only [byts, h i o n sz rfl]
      | some _ => rfl
  | _ => rfl
/-- An operation that turns nothing yields the same over another heap, if what it reads is the same. -/
theorem step_frame {T : Tm} {H H' H2 : Heap} {op : XOp} {v : Value} (h : step T H op = some (v, H')) (hE : kindE op = false) (hA : kindA op = false) (hr : ∀ x, Reads T op x → H2.get x = H.get x) : step T H2 op = some (v, H2) := by
  cases op <;> simp only [kindE, kindA, reduceCtorEq] at hE hA
  case load1 p =>
    simp only [step] at h ⊢
    split at h
    · rename_i i o he
      have := hr i ⟨p, o, .inl ⟨.inl rfl, he⟩⟩
      try simp only [this]
      split at h
      · rename_i ob hob
        try simp only [hob]
        split at h
        · rename_i u hu
          try simp only [hu]
          simp only [Option.some.injEq, Prod.mk.injEq] at h
          rw [h.1]
        · cases h
      · cases h
    · cases h
  case loadN m p =>
    simp only [step] at h ⊢
    split at h
    · rename_i i o he
      have := hr i ⟨p, o, .inl ⟨.inr ⟨m, rfl⟩, he⟩⟩
      try simp only [this]
      split at h
      · rename_i ob hob
        try simp only [hob]
        split at h
        · rename_i hl
          rw [if_pos hl]
          simp only [Option.some.injEq, Prod.mk.injEq] at h
          rw [h.1]
        · cases h
      · cases h
    · cases h
  case b2s p =>
    simp only [step, Option.map_eq_some_iff, Prod.mk.injEq] at h ⊢
    obtain ⟨u, hu, h1, _⟩ := h
    exact ⟨u, by rw [byts_congr (fun x o n sz e => hr x ⟨p, o, .inr ⟨rfl, n, sz, e⟩⟩), hu], h1, trivial⟩
  case mm mx x y =>
    simp only [step] at h ⊢
    split at h
    · split at h
      · rename_i hk
        simp only [Option.some.injEq, Prod.mk.injEq] at h
        rw [if_pos hk, h.1]
      · cases h
    · cases h
  all_goals
    simp only [step] at h ⊢
    repeat' (split at h)
    all_goals first
      | (cases h; done)
      | (simp only [Option.some.injEq, Prod.mk.injEq] at h; rw [h.1]; done)
      | (simp only [Option.map_eq_some_iff, Prod.mk.injEq] at h ⊢; obtain ⟨q, h1, h2, _⟩ := h; exact ⟨q, h1, h2, rfl⟩)
      | (simp only [Option.map_eq_some_iff, Prod.mk.injEq] at h ⊢; obtain ⟨q, h1, h2⟩ := h; simp_all; done)
      | (simp_all; done)
end Go.Proofs.Ytjjglonmaajjoaa.AX
namespace Go.Proofs.Ytjjglonmaajjoaa.AX
open Go

/-- As Next, of heaps with one supply of names. -/
structure Nx (ρ : Map) (H : Heap) (w : World) (ρ' : Map) (H' : Heap) (w' : World) : Prop where
  le : Map.le ρ ρ'
  rel : Rel ρ' H' w'
  os : w'.os = w.os
  tape : w'.tape = w.tape
  output : w'.output = w.output
  size : w.heap.size ≤ w'.heap.size
  frame : ∀ b, b < w.heap.size → ¬ Owned ρ H b → w'.heap[b]? = w.heap[b]?
  from_ : ∀ b, Owned ρ' H' b → w.heap.size ≤ b ∨ Owned ρ H b
  views : ∀ i cs, H'.get i = some (.view cs) → H.get i = some (.view cs)
theorem Nx.trans {ρ ρ1 ρ2 : Map} {H H1 H2 : Heap} {w w1 w2 : World} (h : Nx ρ H w ρ1 H1 w1) (k : Nx ρ1 H1 w1 ρ2 H2 w2) : Nx ρ H w ρ2 H2 w2 where
  le := Map.le_trans h.le k.le
  rel := k.rel
  os := k.os.trans h.os
  tape := k.tape.trans h.tape
  output := k.output.trans h.output
  size := Nat.le_trans h.size k.size
  frame := fun b hb hn => by
    rw [k.frame b (Nat.lt_of_lt_of_le hb h.size) (fun ho => ?_), h.frame b hb hn]
    rcases h.from_ b ho with h1 | h1
    · omega
    · exact hn h1
  from_ := fun b ho => by
    rcases k.from_ b ho with h1 | h1
    · exact .inl (Nat.le_trans h.size h1)
    · exact h.from_ b h1
  views := fun i cs hi => h.views i cs (k.views i cs hi)
theorem Next.nx {ρ ρ' : Map} {H H' : Heap} {w w' : World} (h : Next ρ H w ρ' H' w') : Nx ρ H w ρ' H' w' := ⟨h.le, h.rel, h.os, h.tape, h.output, h.size, h.frame, h.from_, h.views⟩
/-- A block under a name that is kept for it. -/
theorem nx_put {ρ : Map} {G : Nat → Option Obj} {N : Nat} {w : World} (h : Rel ρ ⟨G, N⟩ w) {i : Nat} (hi : i < N) (hG : G i = none) (hρ : ρ i = none) (cs : List Value) (arr : Array Value) (e : TypeId) (hl : cs.length ≤ arr.size)
    (hc : ∀ (j : Nat) (c : Value), cs[j]? = some c → ∃ c', arr[j]? = some c' ∧ VL ρ c c') :
    Nx ρ ⟨G, N⟩ w (ρ.at_ i (⟨w.heap.size, 0, none⟩, arr.size)) ⟨fun x => if x = i then some (.own cs) else G x, N⟩ (w.alloc (.cells arr e)) := by
  have hle : Map.le ρ (ρ.at_ i (⟨w.heap.size, 0, none⟩, arr.size)) := Map.le_at hρ
  have hro : ∀ {j}, j ≠ i → ρ.at_ i (⟨w.heap.size, 0, none⟩, arr.size) j = ρ j := fun hj => by simp [Map.at_, hj]
  refine ⟨hle, ⟨?_, ?_, ?_, ?_, ?_⟩, rfl, rfl, rfl, by simp, fun b hb _ => alloc_lt hb, ?_, ?_⟩
  · intro j vs hj
    dsimp only at hj
    split at hj
    · injection hj with hj; cases hj
    · obtain ⟨b, L, h1, h2, h3⟩ := h.view j vs hj
      refine ⟨b, L, hle _ _ h1, by simp; omega, fun k c hk => ?_⟩
      obtain ⟨c', h4, h5⟩ := h3 k c hk
      exact ⟨c', by rw [cell_alloc_lt (by rw [add_block]; exact h2)]; exact h4, h5.le hle⟩
  · intro j vs hj
    dsimp only at hj
    split at hj
    · rename_i e1
      subst e1
      injection hj with hj; injection hj with hj; subst hj
      refine ⟨w.heap.size, 0, arr.size, Map.at_self _ _ _, arr, e, by rw [heap_alloc_at, if_pos rfl], by omega, hl, fun k c hk => ?_⟩
      obtain ⟨c', h4, h5⟩ := hc k c hk
      exact ⟨c', by simpa using h4, h5.le hle⟩
    · obtain ⟨g, off, L, h1, a, t, h2, h3, h3', h4⟩ := h.own j vs hj
      refine ⟨g, off, L, hle _ _ h1, a, t, by rw [alloc_lt (Array.getElem?_eq_some_iff.1 h2).1]; exact h2, h3, h3', fun k c hk => ?_⟩
      obtain ⟨c', h5, h6⟩ := h4 k c hk
      exact ⟨c', h5, h6.le hle⟩
  · intro a b vs o g off L b' L' ha hb hab hra hrb
    dsimp only at ha hb
    split at ha
    · rename_i e1
      subst e1
      rw [Map.at_self] at hra
      injection hra with hra; injection hra with hra _; injection hra with hra _
      rw [if_neg (fun e => hab e.symm)] at hb
      rw [hro (fun e => hab e.symm)] at hrb
      have := base_lt h hb hrb
      omega
    · rename_i hane
      rw [hro hane] at hra
      split at hb
      · rename_i e1
        subst e1
        rw [Map.at_self] at hrb
        injection hrb with hrb; injection hrb with hrb _; subst hrb
        have := base_lt h ha hra
        dsimp only at this ⊢
        omega
      · rename_i hbne
        rw [hro hbne] at hrb
        exact h.apart a b vs o g off L b' L' ha hb hab hra hrb
  · intro j o hj
    dsimp only at hj
    split at hj
    · rename_i e1; subst e1; exact hi
    · exact h.lt j o hj
  · intro j x hj
    by_cases e1 : j = i
    · subst e1; exact hi
    · rw [hro e1] at hj; exact h.fresh j x hj
  · rintro b ⟨j, vs, a, L, h1, h2, rfl⟩
    dsimp only at h1
    split at h1
    · rename_i e1
      subst e1
      rw [Map.at_self] at h2
      injection h2 with h2; injection h2 with h2 _; subst h2
      exact .inl (Nat.le_refl _)
    · rename_i e1
      rw [hro e1] at h2
      exact .inr ⟨j, vs, a, L, h1, h2, rfl⟩
  · intro j vs hj
    dsimp only at hj
    split at hj
    · injection hj with hj; cases hj
    · exact hj
section
variable {P : Program} {C : CallRel} {n : Nat} {ops : Array Oper} {pre : List (List Nat)} {os : List XO} {Ts : Nat → Tm} {Hs : Nat → Heap} {vs : Nat → Value} {S : Nat → Bool} {i : Nat} {xo : XO} {Q : Exit → Act → World → Prop} {ρ0 : Map} {w0 : World}
/-- The state when S is done. -/
structure St (n : Nat) (os : List XO) (Ts : Nat → Tm) (Hs : Nat → Heap) (vs : Nat → Value) (ρ0 : Map) (w0 : World) (S : Nat → Bool) (a : Act) (w : World) (ρ : Map) : Prop where
  nx : Nx ρ0 (Hs 0) w0 ρ ⟨gk os Hs S os.length, (Hs os.length).nxt⟩ w
  slots : TRel ρ n (tk os vs (Ts 0) S os.length) a
  dom : ∀ x y, ρ x = some y → (x < (Hs 0).nxt ∧ ρ0 x = some y) ∨ ∃ k, k < os.length ∧ S k = true ∧ (Hs k).nxt ≤ x ∧ x < (Hs (k + 1)).nxt
theorem guard_looks {t : Nat} {want : Bool} (h : xo.guard = some (t, want)) : t ∈ looksO xo := by simp [looksO, h]
theorem wanted_congr {T T' : Tm} {xo : XO} (h : ∀ t ∈ looksO xo, T' t = T t) : wanted T' xo.guard = wanted T xo.guard := by
  cases hg : xo.guard with
  | none => rfl
  | some p =>
    obtain ⟨t, want⟩ := p
    simp only [wanted]
    rw [h t (guard_looks hg)]
theorem ranges {hm : ∀ k, k < os.length → (Hs k).nxt ≤ (Hs (k + 1)).nxt} {j k x : Nat} (hj : j < os.length) (hk : k < os.length) (h1 : (Hs j).nxt ≤ x) (h2 : x < (Hs (j + 1)).nxt) (h3 : (Hs k).nxt ≤ x) (h4 : x < (Hs (k + 1)).nxt) : j = k := by
  rcases Nat.lt_trichotomy j k with h | h | h
  · have := nxt_mono hm (show j + 1 ≤ k by omega) (by omega); omega
  · exact h
  · have := nxt_mono hm (show k + 1 ≤ j by omega) (by omega); omega
theorem with_mono {k : Nat} (h : S k = true) : with_ S i k = true := by
  unfold with_; split
  · rfl
  · exact h
/-- An operation with an effect: what it needs lies in the text's heap; what it leaves is put beside what was made early. -/
theorem merge (hcan : Can P C n ops pre os Ts Hs vs) (hm : ∀ k, k < os.length → (Hs k).nxt ≤ (Hs (k + 1)).nxt) (hwf : ∀ k, k ≤ os.length → Wf n (Ts k) (Hs k)) (hn : Now pre os.length S i) (hxo : os[i]? = some xo) (hE : kindE xo.op = true)
    {a : Act} {w : World} {ρ : Map} (hst : St n os Ts Hs vs ρ0 w0 S a w ρ) :
    Rel (cut ρ (Hs i).nxt) (Hs i) w ∧ ∀ ρ' w', Next (cut ρ (Hs i).nxt) (Hs i) w ρ' (Hs (i + 1)) w' →
      ∃ ρ2, Map.le ρ ρ2 ∧ Map.le ρ' ρ2 ∧ Nx ρ ⟨gk os Hs S os.length, (Hs os.length).nxt⟩ w ρ2 ⟨gk os Hs (with_ S i) os.length, (Hs os.length).nxt⟩ w' ∧ (∀ x y, ρ2 x = some y → ρ x = some y ∨ (Hs i).nxt ≤ x ∧ x < (Hs (i + 1)).nxt) := by
  have hlt := hn.lt
  have hR := hst.nx.rel
  have hwi := (hwf i (by omega)).heap
  have hsub : ∀ x ob, (Hs i).get x = some ob → gk os Hs S os.length x = some ob := fun x ob h => by rw [gk_E2 hcan hm hn hxo hE (hwi x ob h).1]; exact h
  have hcutl : ∀ x y, cut ρ (Hs i).nxt x = some y → x < (Hs i).nxt := by
    intro x y h
    unfold cut at h
    split at h
    · assumption
    · cases h
  have hcutr : ∀ x, x < (Hs i).nxt → cut ρ (Hs i).nxt x = ρ x := fun x h => by unfold cut; rw [if_pos h]
  have R1 : Rel (cut ρ (Hs i).nxt) (Hs i) w := by
    refine ⟨fun x cs hx => ?_, fun x cs hx => ?_, ?_, fun x o hx => (hwi x o hx).1, fun x y hx => hcutl x y hx⟩
    · obtain ⟨b, L, h1, h2, h3⟩ := hR.view x cs (hsub x _ hx)
      refine ⟨b, L, by rw [hcutr x (hwi x _ hx).1]; exact h1, h2, fun j c hj => ?_⟩
      obtain ⟨c', h4, h5⟩ := h3 j c hj
      exact ⟨c', h4, h5.cut_ ((hwi x _ hx).2 c (List.mem_of_getElem? hj))⟩
    · obtain ⟨g, off, L, h1, arr, e, h2, h3, h4, h5⟩ := hR.own x cs (hsub x _ hx)
      refine ⟨g, off, L, by rw [hcutr x (hwi x _ hx).1]; exact h1, arr, e, h2, h3, h4, fun j c hj => ?_⟩
      obtain ⟨c', h6, h7⟩ := h5 j c hj
      exact ⟨c', h6, h7.cut_ ((hwi x _ hx).2 c (List.mem_of_getElem? hj))⟩
    · intro x y cs o g off L b L' hx hy hxy hrx hry
      exact hR.apart x y cs o g off L b L' (hsub x _ hx) (hsub y _ hy) hxy (cut_le ρ _ _ _ hrx) (cut_le ρ _ _ _ hry)
  refine ⟨R1, fun ρ' w' hN => ?_⟩
  have hmi := hm i hlt
  have hN1 := nxt_mono hm (show i + 1 ≤ os.length by omega) (Nat.le_refl _)
  have hG : ∀ x, gk os Hs (with_ S i) os.length x = if x < (Hs (i + 1)).nxt then (Hs (i + 1)).get x else gk os Hs S os.length x :=
    gk_E3 hcan hm (fun k hk x ob h => ((hwf k hk).heap x ob h).1) hn hxo hE
  -- no name of this operation is in use
  have hfree : ∀ x, (Hs i).nxt ≤ x → x < (Hs (i + 1)).nxt → ρ x = none := by
    intro x h1 h2
    cases hx : ρ x with
    | none => rfl
    | some y =>
      rcases hst.dom x y hx with ⟨h3, _⟩ | ⟨k, hk, hSk, h3, h4⟩
      · have := nxt_mono hm (Nat.zero_le i) (by omega); omega
      · have := ranges (hm := hm) hlt hk h1 h2 h3 h4
        subst this
        rw [hn.not] at hSk; cases hSk
  let ρ2 : Map := fun x => if x < (Hs (i + 1)).nxt then ρ' x else ρ x
  have e2a : ∀ x, x < (Hs (i + 1)).nxt → ρ2 x = ρ' x := fun x h => by simp only [ρ2, if_pos h]
  have e2b : ∀ x, ¬ x < (Hs (i + 1)).nxt → ρ2 x = ρ x := fun x h => by simp only [ρ2, if_neg h]
  have le1 : Map.le ρ ρ2 := by
    intro x y hx
    by_cases h1 : x < (Hs i).nxt
    · rw [e2a x (by omega)]
      exact hN.le x y (by rw [hcutr x h1]; exact hx)
    · by_cases h2 : x < (Hs (i + 1)).nxt
      · rw [hfree x (by omega) h2] at hx; cases hx
      · rw [e2b x h2]; exact hx
  have le2 : Map.le ρ' ρ2 := fun x y hx => by rw [e2a x (hN.rel.fresh x y hx)]; exact hx
  have own_old : ∀ b, Owned (cut ρ (Hs i).nxt) (Hs i) b → Owned ρ ⟨gk os Hs S os.length, (Hs os.length).nxt⟩ b := fun b ⟨x, cs, ad, L, h1, h2, h3⟩ => ⟨x, cs, ad, L, hsub x _ h1, cut_le ρ _ _ _ h2, h3⟩
  -- an object made early lies where nobody has been
  have far : ∀ x o, ¬ x < (Hs (i + 1)).nxt → gk os Hs S os.length x = some o → ∀ b L, ρ x = some (b, L) → b.block < w.heap.size ∧ ¬ Owned (cut ρ (Hs i).nxt) (Hs i) b.block := by
    intro x o hx ho b L hr
    refine ⟨base_lt hR ho hr, ?_⟩
    rintro ⟨y, cs, ad, L', h1, h2, h3⟩
    obtain ⟨g, off, L2, h4, _⟩ := hR.own y cs (hsub y _ h1)
    have h2' := cut_le ρ _ _ _ h2
    rw [h2'] at h4
    injection h4 with h4; injection h4 with h4 _; subst h4
    have hne : y ≠ x := fun e => by have := (hwi y _ h1).1; omega
    exact hR.apart y x cs o g off L' b L (hsub y _ h1) ho hne h2' hr h3.symm
  have stay : ∀ x o, ¬ x < (Hs (i + 1)).nxt → gk os Hs S os.length x = some o → ∀ b L, ρ x = some (b, L) → w'.heap[b.block]? = w.heap[b.block]? := fun x o hx ho b L hr => hN.frame _ (far x o hx ho b L hr).1 (far x o hx ho b L hr).2
  have R2 : Rel ρ2 ⟨gk os Hs (with_ S i) os.length, (Hs os.length).nxt⟩ w' := by
    refine ⟨fun x cs hx => ?_, fun x cs hx => ?_, ?_, fun x o hx => ?_, fun x y hx => ?_⟩
    · dsimp only at hx
      rw [hG] at hx
      split at hx
      · rename_i h
        obtain ⟨b, L, h1, h2, h3⟩ := hN.rel.view x cs hx
        refine ⟨b, L, le2 _ _ h1, h2, fun j c hj => ?_⟩
        obtain ⟨c', h4, h5⟩ := h3 j c hj
        exact ⟨c', h4, h5.le le2⟩
      · rename_i h
        obtain ⟨b, L, h1, h2, h3⟩ := hR.view x cs hx
        refine ⟨b, L, le1 _ _ h1, Nat.lt_of_lt_of_le h2 hN.size, fun j c hj => ?_⟩
        obtain ⟨c', h4, h5⟩ := h3 j c hj
        refine ⟨c', ?_, h5.le le1⟩
        rw [World.cell?_of_block (a := b.add j) (w := w) (w' := w') (by rw [add_block]; exact stay x _ h hx b L h1)]
        exact h4
    · dsimp only at hx
      rw [hG] at hx
      split at hx
      · rename_i h
        obtain ⟨g, off, L, h1, arr, e, h2, h3, h4, h5⟩ := hN.rel.own x cs hx
        refine ⟨g, off, L, le2 _ _ h1, arr, e, h2, h3, h4, fun j c hj => ?_⟩
        obtain ⟨c', h6, h7⟩ := h5 j c hj
        exact ⟨c', h6, h7.le le2⟩
      · rename_i h
        obtain ⟨g, off, L, h1, arr, e, h2, h3, h4, h5⟩ := hR.own x cs hx
        refine ⟨g, off, L, le1 _ _ h1, arr, e, ?_, h3, h4, fun j c hj => ?_⟩
        · have := stay x _ h hx _ L h1
          dsimp only at this
          rw [this]; exact h2
        · obtain ⟨c', h6, h7⟩ := h5 j c hj
          exact ⟨c', h6, h7.le le1⟩
    · intro x y cs o g off L b L' hx hy hxy hrx hry
      dsimp only at hx hy
      rw [hG] at hx hy
      split at hx
      · rename_i h1
        rw [e2a x h1] at hrx
        split at hy
        · rename_i h2
          rw [e2a y h2] at hry
          exact hN.rel.apart x y cs o g off L b L' hx hy hxy hrx hry
        · rename_i h2
          rw [e2b y h2] at hry
          have hf := far y o h2 hy b L' hry
          intro e
          have : Owned ρ' (Hs (i + 1)) b.block := ⟨x, cs, _, L, hx, hrx, e.symm⟩
          rcases hN.from_ _ this with h3 | h3
          · omega
          · exact hf.2 h3
      · rename_i h1
        rw [e2b x h1] at hrx
        split at hy
        · rename_i h2
          rw [e2a y h2] at hry
          have hf := far x _ h1 hx _ L hrx
          dsimp only at hf
          intro e
          cases o with
          | own cs2 =>
            have : Owned ρ' (Hs (i + 1)) g := ⟨y, cs2, b, L', hy, hry, e⟩
            rcases hN.from_ _ this with h3 | h3
            · omega
            · exact hf.2 h3
          | view cs2 =>
            have hv := hN.views y cs2 hy
            have hyl := (hwi y _ hv).1
            obtain ⟨b', L2, h3, _⟩ := R1.view y cs2 hv
            have h4 := hN.le y _ h3
            rw [hry] at h4
            injection h4 with h4; injection h4 with h4 h5; subst h4; subst h5
            exact hR.apart x y cs _ g off L b L' hx (hsub y _ hv) hxy hrx (cut_le ρ _ _ _ h3) e
        · rename_i h2
          rw [e2b y h2] at hry
          exact hR.apart x y cs o g off L b L' hx hy hxy hrx hry
    · dsimp only at hx ⊢
      rw [hG] at hx
      split at hx
      · omega
      · exact hR.lt x o hx
    · dsimp only
      by_cases h : x < (Hs (i + 1)).nxt
      · omega
      · rw [e2b x h] at hx; exact hR.fresh x y hx
  refine ⟨ρ2, le1, le2, ⟨le1, R2, hN.os, hN.tape, hN.output, hN.size, fun b hb hno => hN.frame b hb (fun h => hno (own_old b h)), ?_, ?_⟩, ?_⟩
  · rintro b ⟨x, cs, ad, L, hx, hr, rfl⟩
    dsimp only at hx
    rw [hG] at hx
    split at hx
    · rename_i h
      rw [e2a x h] at hr
      rcases hN.from_ _ ⟨x, cs, ad, L, hx, hr, rfl⟩ with h3 | h3
      · exact .inl h3
      · exact .inr (own_old _ h3)
    · rename_i h
      rw [e2b x h] at hr
      exact .inr ⟨x, cs, ad, L, hx, hr, rfl⟩
  · intro x cs hx
    dsimp only at hx ⊢
    rw [hG] at hx
    split at hx
    · exact hsub x _ (hN.views x cs hx)
    · exact hx
  · intro x y hx
    by_cases h : x < (Hs (i + 1)).nxt
    · rw [e2a x h] at hx
      by_cases h2 : x < (Hs i).nxt
      · have := hN.old x y h2 hx
        exact .inl (cut_le ρ _ _ _ this)
      · exact .inr ⟨by omega, h⟩
    · rw [e2b x h] at hx; exact .inl hx
end
section
variable {P : Program} {C : CallRel} {o : Oper} {a : Act} {w : World} {K : Act → World → Prop} {Q : Exit → Act → World → Prop} {ρ : Map} {n : Nat} {T : Tm} {H H' : Heap} {v : Value}
theorem args_sound' : ∀ (xs : List Operand) (ys : List XArg), xs.mapM (carg n) = some ys → (∀ x y, carg n x = some y → y ∈ ys → VR ρ (ev T y) (a.eval x)) → All2 (VR ρ) (ys.map (ev T)) (xs.map a.eval)
  | [], ys, h, _ => by simp at h; subst h; exact .nil
  | x :: xs, ys, h, hv => by
    simp only [List.mapM_cons, Option.bind_eq_bind, Option.bind_eq_some_iff, Option.pure_def, Option.some.injEq] at h
    obtain ⟨y, hy, ys', hys, rfl⟩ := h
    exact .cons (hv x y hy (by simp)) (args_sound' xs ys' hys (fun x' y' h1 h2 => hv x' y' h1 (by simp [h2])))
theorem eff_call (hC : CallSound P C) {f : FuncId} {ys : List XArg} (hc : cop P n o.op = some (.call f ys)) (hv : ∀ x y, carg n x = some y → (∀ t ∈ argT y, t ∈ looks (.call f ys)) → VR ρ (ev T y) (a.eval x)) (hR : Rel ρ H w) (hs : Opv C T H (.call f ys) v H') : Sound P o a w K Q ρ H v H' := by
  intro hk
  obtain ⟨args, ats, fn, hop, hfn, hname, hargs⟩ := call_form hc
  simp only [Opv, Op1] at hs
  obtain ⟨v0, H0, h1, rfl, rfl⟩ := hs
  refine call_wp hC hop hfn hR ?_ h1 (fun v' ρ' w' hv' hN => hk v' w' ρ' hv' hN)
  rw [Array.toList_map]
  exact args_sound' _ _ hargs (fun x y h2 h3 => hv x y h2 (fun t ht => List.mem_flatMap.2 ⟨y, h3, ht⟩))
theorem eff_calld (hC : CallSound P C) {x : XArg} {ys : List XArg} (hc : cop P n o.op = some (.calld x ys)) (hv : ∀ x' y, carg n x' = some y → (∀ t ∈ argT y, t ∈ looks (.calld x ys)) → VR ρ (ev T y) (a.eval x')) (hR : Rel ρ H w) (hs : Opv C T H (.calld x ys) v H') : Sound P o a w K Q ρ H v H' := by
  intro hk
  obtain ⟨t, args, ats, hop, hx, hargs⟩ := calld_form hc
  simp only [Opv, Op1] at hs
  obtain ⟨f, cs, ef, v0, H0, h1, rfl, rfl⟩ := hs
  have hf := hv _ _ hx (fun t ht => List.mem_append_left _ ht)
  rw [ef] at hf
  refine calld_wp hC hop hR hf ?_ h1 (fun v' ρ' w' hv' hN => hk v' w' ρ' hv' hN)
  rw [Array.toList_map]
  exact args_sound' _ _ hargs (fun x' y h2 h3 => hv x' y h2 (fun t ht => List.mem_append_right _ (List.mem_flatMap.2 ⟨y, h3, ht⟩)))
/-- An operation with an effect, its operands told one by one. -/
theorem eff_sound (hC : CallSound P C) {xo : XOp} (hc : cop P n o.op = some xo) (hE : kindE xo = true) (hv : ∀ x y, carg n x = some y → (∀ t ∈ argT y, t ∈ looks xo) → VR ρ (ev T y) (a.eval x)) (hR : Rel ρ H w) (hs : Opv C T H xo v H') : Sound P o a w K Q ρ H v H' := by
  have hc0 := hc
  cases hop : o.op with
  | move x =>
    rw [hop] at hc
    simp only [cop, Option.map_eq_some_iff] at hc
    obtain ⟨y, hy, rfl⟩ := hc
    cases hE
  | assign x =>
    rw [hop] at hc
    simp only [cop, Option.map_eq_some_iff] at hc
    obtain ⟨y, hy, rfl⟩ := hc
    cases hE
  | pick c x y =>
    rw [hop] at hc
    simp only [cop, Option.bind_eq_bind, Option.bind_eq_some_iff, Option.pure_def, Option.some.injEq] at hc
    obtain ⟨c', hc', x', hx', y', hy', rfl⟩ := hc
    cases hE
  | alloc e =>
    rw [hop] at hc
    simp only [cop, Option.bind_eq_some_iff] at hc
    obtain ⟨zs, hz, hc⟩ := hc
    split at hc
    · rename_i hf
      injection hc with hc
      subst hc
      cases hE
    · cases hc
  | box e x =>
    rw [hop] at hc
    simp only [cop, Option.map_eq_some_iff] at hc
    obtain ⟨y, hy, rfl⟩ := hc
    cases hE
  | build t parts =>
    rw [hop] at hc
    simp only [cop] at hc
    split at hc
    · rename_i fs hu
      simp only [Option.bind_eq_bind, Option.bind_eq_some_iff] at hc
      obtain ⟨zs, hz, places, hp, ps, hps, hc⟩ := hc
      split at hc
      · rename_i hf
        injection hc with hc
        subst hc
        cases hE
      · cases hc
    · cases hc
  | buildSlice t len parts =>
    rw [hop] at hc
    simp only [cop] at hc
    split at hc
    · rename_i e hu
      simp only [Option.bind_eq_bind, Option.bind_eq_some_iff] at hc
      obtain ⟨i, hi, z, hz, hc⟩ := hc
      split at hc
      · cases hc
      · rename_i hcond
        simp only [Option.bind_eq_some_iff, Option.pure_def, Option.some.injEq] at hc
        obtain ⟨ps, hps, rfl⟩ := hc
        have h1 : ¬ len * i.size > 2 ^ 24 := fun h => hcond (.inl h)
        have h2 : z.cells.toList.all flatB = true := Classical.byContradiction fun h => hcond (.inr h)
        cases hE
    · cases hc
  | load t p =>
    rw [hop] at hc
    simp only [cop, Option.bind_eq_bind, Option.bind_eq_some_iff] at hc
    obtain ⟨x, hx, ag, hag, hc⟩ := hc
    cases ag with
    | true =>
      simp only [Option.bind_eq_some_iff, Option.pure_def, Option.some.injEq] at hc
      obtain ⟨m, hm, rfl⟩ := hc
      cases hE
    | false =>
      simp only [Option.pure_def, Option.some.injEq] at hc
      subst hc
      cases hE
  | store t p x =>
    rw [hop] at hc
    simp only [cop, Option.bind_eq_bind, Option.bind_eq_some_iff, Option.pure_def, Option.some.injEq] at hc
    obtain ⟨m, hm, y, hy, z, hz, rfl⟩ := hc
    exact s_store' hop (hv _ _ hy (fun t ht => List.mem_append_left _ ht)) (hv _ _ hz (fun t ht => List.mem_append_right _ ht)) hm hR (hs.step (fun f xs e => by cases e) (fun f xs e => by cases e))
  | nilCheck x =>
    rw [hop] at hc
    simp only [cop, Option.map_eq_some_iff] at hc
    obtain ⟨y, hy, rfl⟩ := hc
    cases hE
  | binOp op t x y yt =>
    rw [hop] at hc
    simp only [cop] at hc
    split at hc
    · simp only [Option.bind_eq_bind, Option.bind_eq_some_iff, Option.pure_def, Option.some.injEq] at hc
      obtain ⟨x', hx', y', hy', rfl⟩ := hc
      cases hE
    · simp only [Option.bind_eq_bind, Option.bind_eq_some_iff, Option.pure_def, Option.some.injEq] at hc
      obtain ⟨x', hx', y', hy', rfl⟩ := hc
      cases hE
    · simp only [Option.bind_eq_bind, Option.bind_eq_some_iff, Option.pure_def, Option.some.injEq] at hc
      obtain ⟨x', hx', y', hy', rfl⟩ := hc
      cases hE
    · rename_i hu
      split at hc
      · simp only [Option.bind_eq_bind, Option.bind_eq_some_iff, Option.pure_def, Option.some.injEq] at hc
        obtain ⟨x', hx', y', hy', rfl⟩ := hc
        cases hE
      · simp only [Option.bind_eq_bind, Option.bind_eq_some_iff, Option.pure_def, Option.some.injEq] at hc
        obtain ⟨x', hx', y', hy', rfl⟩ := hc
        cases hE
      · cases hc
    · rename_i fs hu
      split at hc
      · cases hc
      · split at hc
        · simp only [Option.bind_eq_bind, Option.bind_eq_some_iff, Option.pure_def, Option.some.injEq] at hc
          obtain ⟨os, hos, x', hx', y', hy', rfl⟩ := hc
          cases hE
        · simp only [Option.bind_eq_bind, Option.bind_eq_some_iff, Option.pure_def, Option.some.injEq] at hc
          obtain ⟨os, hos, x', hx', y', hy', rfl⟩ := hc
          cases hE
        · cases hc
    · cases hc
  | unOp op t x =>
    rw [hop] at hc
    simp only [cop, Option.map_eq_some_iff] at hc
    obtain ⟨y, hy, rfl⟩ := hc
    cases hE
  | convert s d x =>
    rw [hop] at hc
    simp only [cop] at hc
    split at hc
    · rename_i k0 k hs0 hd
      simp only [Option.map_eq_some_iff] at hc
      obtain ⟨y, hy, rfl⟩ := hc
      cases hE
    · rename_i k0 k hs0 hd
      simp only [Option.map_eq_some_iff] at hc
      obtain ⟨y, hy, rfl⟩ := hc
      cases hE
    · rename_i k0 k hs0 hd
      split at hc
      · simp only [Option.map_eq_some_iff] at hc
        obtain ⟨y, hy, rfl⟩ := hc
        cases hE
      · cases hc
    · rename_i e hs0 hd
      split at hc
      · simp only [Option.map_eq_some_iff] at hc
        obtain ⟨y, hy, rfl⟩ := hc
        cases hE
      · cases hc
    · cases hc
  | makeSlice t l c =>
    rw [hop] at hc
    simp only [cop] at hc
    split at hc
    · rename_i e hu
      simp only [Option.bind_eq_bind, Option.bind_eq_some_iff] at hc
      obtain ⟨i, hi, z, hz, hc⟩ := hc
      split at hc
      · rename_i hcond
        simp only [Option.bind_eq_some_iff, Option.pure_def, Option.some.injEq] at hc
        obtain ⟨l', hl', c', hc', rfl⟩ := hc
        cases hE
      · cases hc
    · cases hc
  | slice t x lo hi mx =>
    rw [hop] at hc
    simp only [cop] at hc
    split at hc
    · rename_i e hu
      simp only [Option.bind_eq_bind, Option.bind_eq_some_iff, Option.pure_def, Option.some.injEq] at hc
      obtain ⟨m, hm, x', hx', lo', hlo, hi', hhi, mx', hmx, rfl⟩ := hc
      cases hE
    · rename_i hu
      split at hc
      · simp only [Option.bind_eq_bind, Option.bind_eq_some_iff, Option.pure_def, Option.some.injEq] at hc
        obtain ⟨x', hx', lo', hlo, hi', hhi, rfl⟩ := hc
        cases hE
      · cases hc
    · cases hc
  | fieldAddr s x f =>
    rw [hop] at hc
    simp only [cop] at hc
    split at hc
    · rename_i fs hu
      simp only [Option.bind_eq_bind, Option.bind_eq_some_iff] at hc
      obtain ⟨fd, hf, m, hm, hc⟩ := hc
      split at hc
      · cases hc
      · rename_i hm0
        simp only [Option.bind_eq_some_iff, Option.pure_def, Option.some.injEq] at hc
        first
          | (obtain ⟨y, hy, rfl⟩ := hc
             cases hE)
          | (obtain ⟨_, y, hy, rfl⟩ := hc
             cases hE)
    · cases hc
  | field s x f =>
    rw [hop] at hc
    simp only [cop] at hc
    split at hc
    · rename_i fs hu
      simp only [Option.bind_eq_bind, Option.bind_eq_some_iff] at hc
      obtain ⟨fd, hf, ag, hag, hc⟩ := hc
      cases ag with
      | true =>
        simp only [Option.bind_eq_some_iff, Option.pure_def, Option.some.injEq] at hc
        obtain ⟨m, hm, y, hy, rfl⟩ := hc
        cases hE
      | false =>
        simp only [Option.bind_eq_some_iff, Option.pure_def, Option.some.injEq] at hc
        obtain ⟨y, hy, rfl⟩ := hc
        cases hE
    · cases hc
  | indexAddr t x i =>
    rw [hop] at hc
    simp only [cop] at hc
    split at hc
    · rename_i e hu
      simp only [Option.bind_eq_bind, Option.bind_eq_some_iff, Option.pure_def, Option.some.injEq] at hc
      obtain ⟨m, hm, y, hy, z, hz, rfl⟩ := hc
      cases hE
    · rename_i len e hu
      simp only [Option.bind_eq_bind, Option.bind_eq_some_iff, Option.pure_def, Option.some.injEq] at hc
      obtain ⟨m, hm, y, hy, z, hz, rfl⟩ := hc
      cases hE
    · cases hc
  | index t x i =>
    rw [hop] at hc
    simp only [cop] at hc
    split at hc
    · rename_i hu
      simp only [Option.bind_eq_bind, Option.bind_eq_some_iff, Option.pure_def, Option.some.injEq] at hc
      obtain ⟨y, hy, z, hz, rfl⟩ := hc
      cases hE
    · cases hc
  | extract x i =>
    rw [hop] at hc
    simp only [cop, Option.map_eq_some_iff] at hc
    obtain ⟨y, hy, rfl⟩ := hc
    cases hE
  | call c =>
    rw [hop] at hc
    obtain ⟨callee, args, ats⟩ := c
    cases callee with
    | value f =>
      cases f with
      | func f =>
        simp only [cop] at hc
        split at hc
        · split at hc
          · cases hc
          · simp only [Option.map_eq_some_iff] at hc
            obtain ⟨ys, _, rfl⟩ := hc
            exact eff_call hC hc0 hv hR hs
        · cases hc
      | tmp t =>
        simp only [cop] at hc
        split at hc
        · simp only [Option.map_eq_some_iff] at hc
          obtain ⟨ys, _, rfl⟩ := hc
          exact eff_calld hC hc0 hv hR hs
        · cases hc
      | _ => simp [cop] at hc
    | invoke r m => simp [cop] at hc
    | builtin b =>
      cases b with
      | len =>
        simp only [cop] at hc
        split at hc
        · rename_i x e hargs hu
          simp only [Option.map_eq_some_iff] at hc
          obtain ⟨y, hy, rfl⟩ := hc
          simp only [Option.bind_eq_some_iff] at hu
          obtain ⟨t, ht, hu⟩ := hu
          have ha : args = #[x] := by rw [← Array.toList_inj]; exact hargs
          subst ha
          cases hE
        · rename_i x hargs hu
          simp only [Option.map_eq_some_iff] at hc
          obtain ⟨y, hy, rfl⟩ := hc
          simp only [Option.bind_eq_some_iff] at hu
          obtain ⟨t, ht, hu⟩ := hu
          have ha : args = #[x] := by rw [← Array.toList_inj]; exact hargs
          subst ha
          cases hE
        · cases hc
      | append =>
        simp only [cop] at hc
        split at hc
        · rename_i s x st xt hargs hats
          split at hc
          · rename_i e hu
            simp only [Option.bind_eq_bind, Option.bind_eq_some_iff] at hc
            obtain ⟨i, hi, z, hz, hc⟩ := hc
            split at hc
            · rename_i hcond
              simp only [Option.bind_eq_some_iff, Option.pure_def, Option.some.injEq] at hc
              obtain ⟨s', hs', x', hx', rfl⟩ := hc
              obtain ⟨rfl, h1, h2, h3⟩ := hcond
              have ha : args = #[s, x] := by rw [← Array.toList_inj]; exact hargs
              have hb : ats = #[st, st] := by rw [← Array.toList_inj]; exact hats
              subst ha
              subst hb
              exact s_app' hop hu hi hz h1 h3 (hv _ _ hs' (fun t ht => List.mem_append_left _ ht)) (hv _ _ hx' (fun t ht => List.mem_append_right _ ht)) hR (hs.step (fun f xs e => by cases e) (fun f xs e => by cases e))
            · cases hc
          · cases hc
        · cases hc
      | max =>
        simp only [cop] at hc
        split at hc
        · rename_i x y hargs
          simp only [Option.bind_eq_bind, Option.bind_eq_some_iff, Option.pure_def, Option.some.injEq] at hc
          obtain ⟨x', hx', y', hy', rfl⟩ := hc
          have ha : args = #[x, y] := by rw [← Array.toList_inj]; exact hargs
          subst ha
          cases hE
        · cases hc
      | min =>
        simp only [cop] at hc
        split at hc
        · rename_i x y hargs
          simp only [Option.bind_eq_bind, Option.bind_eq_some_iff, Option.pure_def, Option.some.injEq] at hc
          obtain ⟨x', hx', y', hy', rfl⟩ := hc
          have ha : args = #[x, y] := by rw [← Array.toList_inj]; exact hargs
          subst ha
          cases hE
        · cases hc
      | _ => simp [cop] at hc
  | makeFunc g first caps =>
    rw [hop] at hc
    cases g with
    | func g =>
      simp only [cop] at hc
      split at hc
      · simp only [Option.map_eq_some_iff] at hc
        obtain ⟨ys, hys, rfl⟩ := hc
        cases hE
      · cases hc
    | _ => simp [cop] at hc
  | _ => rw [hop] at hc; simp [cop] at hc
end
end Go.Proofs.Ytjjglonmaajjoaa.AX
namespace Go.Proofs.Ytjjglonmaajjoaa.AX
open Go

section
variable {P : Program} {C : CallRel} {n : Nat} {ops : Array Oper} {pre : List (List Nat)} {os : List XO} {Ts : Nat → Tm} {Hs : Nat → Heap} {vs : Nat → Value} {S : Nat → Bool} {i : Nat} {xo : XO} {Q : Exit → Act → World → Prop} {ρ0 : Map} {w0 : World}
theorem looked (hcan : Can P C n ops pre os Ts Hs vs) (hn : Now pre os.length S i) (hxo : os[i]? = some xo) : ∀ t ∈ looksO xo, tk os vs (Ts 0) S os.length t = Ts i t := by
  intro t ht
  have := tk_eq hcan hn hxo ht os.length (Nat.le_refl _)
  rwa [Nat.min_eq_right (Nat.le_of_lt hn.lt)] at this
theorem carg_bel {x : Operand} {y : XArg} {T : Tm} {H : Heap} (h : carg n x = some y) (hw : Wf n T H) : vBel H.nxt (ev T y) := by
  cases x with
  | tmp t =>
    simp only [carg] at h
    split at h
    · rename_i ht
      injection h with h; subst h
      exact hw.slots t ht
    · cases h
  | const v =>
    simp only [carg] at h
    split at h
    · rename_i hf
      injection h with h; subst h
      exact (VR.one (ρ := fun _ => none) (.leaf (.flat hf))).bel (fun _ _ e => by cases e)
    · cases h
  | global g => cases h
  | func f =>
    injection h with h; subst h
    exact (VR.one (ρ := fun _ => none) (a := .func (.func f) #[] #[]) (.leaf (.flat rfl))).bel (fun _ _ e => by cases e)
theorem gk_quiet (hcan : Can P C n ops pre os Ts Hs vs) (hm : ∀ k, k < os.length → (Hs k).nxt ≤ (Hs (k + 1)).nxt) (hwf : ∀ k, k ≤ os.length → Wf n (Ts k) (Hs k)) (hn : Now pre os.length S i) (hxo : os[i]? = some xo) (hh : Hs (i + 1) = Hs i) :
    gk os Hs (with_ S i) os.length = gk os Hs S os.length := by
  funext x
  cases hE : kindE xo.op with
  | true =>
    rw [gk_E3 hcan hm (fun k hk x ob h => ((hwf k hk).heap x ob h).1) hn hxo hE x]
    split
    · rename_i hx
      rw [hh] at hx ⊢
      exact (gk_E2 hcan hm hn hxo hE hx).symm
    · rfl
  | false => rw [gk_N hcan hm hn hxo hE x, if_neg (by rw [hh]; omega)]
theorem st_step (hC : CallSound P C) (hcan : Can P C n ops pre os Ts Hs vs) (hm : ∀ k, k < os.length → (Hs k).nxt ≤ (Hs (k + 1)).nxt) (hwf : ∀ k, k ≤ os.length → Wf n (Ts k) (Hs k)) (hn : Now pre os.length S i)
    {a : Act} {w : World} {ρ : Map} (hst : St n os Ts Hs vs ρ0 w0 S a w ρ) {K : Act → World → Prop} (hK : ∀ a' w' ρ', St n os Ts Hs vs ρ0 w0 (with_ S i) a' w' ρ' → K a' w') : wpOp P ops Q i K a w := by
  have hlt := hn.lt
  obtain ⟨xo, hxo⟩ := os_get (os := os) hlt
  obtain ⟨o, ho, hco⟩ := hcan.oper i xo hxo
  obtain ⟨hd, hop, hg, _⟩ := coper_parts hco
  have hl := looked hcan hn hxo
  have hl' : ∀ t ∈ looks xo.op, tk os vs (Ts 0) S os.length t = Ts i t := fun t ht => hl t (List.mem_append_left _ ht)
  have hw := wanted_eq (ops := ops) hst.slots hg
  rw [wanted_congr hl] at hw
  unfold wpOp
  simp only [ho]
  rcases hcan.step i xo hxo with ⟨hwt, hv⟩ | ⟨hwt, hv, hh⟩
  · rw [hw, hwt, if_pos rfl]
    refine .inl ?_
    cases hE : kindE xo.op with
    | true =>
      obtain ⟨hR, hmerge⟩ := merge hcan hm hwf hn hxo hE hst
      refine eff_sound (T := Ts i) (H := Hs i) (ρ := cut ρ (Hs i).nxt) (v := vs i) (H' := Hs (i + 1)) hC hop hE ?_ hR hv (fun v' w' ρ' hv' hN => ?_)
      · intro x y hxy hlook
        have h1 := ev_sound hxy hst.slots
        rw [ev_congr (fun t ht => hl' t (hlook t ht))] at h1
        exact h1.cut_ (carg_bel hxy (hwf i (by omega)))
      · obtain ⟨ρ2, h1, h2, h3, h4⟩ := hmerge ρ' w' hN
        refine hK _ _ ρ2 ⟨hst.nx.trans h3, ?_, ?_⟩
        · rw [tk_put hcan hn hxo, hd]
          exact (hst.slots.le h1).putO (hv'.le h2)
        · intro x y hxy
          rcases h4 x y hxy with h5 | h5
          · rcases hst.dom x y h5 with h6 | ⟨k, h6, h7, h8⟩
            · exact .inl h6
            · exact .inr ⟨k, h6, with_mono h7, h8⟩
          · exact .inr ⟨i, hlt, with_self, h5⟩
    | false =>
      have hs := hv.step (fun f xs e => by rw [e] at hE; cases hE) (fun f xs e => by rw [e] at hE; cases hE)
      rw [← step_congr (T' := tk os vs (Ts 0) S os.length) hl'] at hs
      cases hA : kindA xo.op with
      | true =>
        obtain ⟨cs, arr, e, vf, h1, h2, h3, h4, h5⟩ := push_run (w := w) hop hA hst.slots hs
        have hno : ρ (Hs i).nxt = none := by
          cases hx : ρ (Hs i).nxt with
          | none => rfl
          | some y =>
            exfalso
            rcases hst.dom _ y hx with ⟨h6, _⟩ | ⟨k, h6, h7, h8, h9⟩
            · have := nxt_mono hm (show 0 ≤ i by omega) (by omega)
              omega
            · have : k = i := ranges (hm := hm) h6 hlt h8 h9 (Nat.le_refl _) (by rw [h1]; exact Nat.lt_succ_self _)
              rw [this, hn.not] at h7
              cases h7
        have hG : gk os Hs S os.length (Hs i).nxt = none := by
          cases hx : gk os Hs S os.length (Hs i).nxt with
          | none => rfl
          | some ob =>
            exfalso
            cases ob with
            | view cs =>
              obtain ⟨b, L, h6, _⟩ := hst.nx.rel.view _ cs hx
              rw [hno] at h6; cases h6
            | own cs =>
              obtain ⟨g, off, L, h6, _⟩ := hst.nx.rel.own _ cs hx
              rw [hno] at h6; cases h6
        have hN : (Hs i).nxt < (Hs os.length).nxt := by
          have h6 := nxt_mono hm (show i + 1 ≤ os.length by omega) (Nat.le_refl _)
          rw [h1] at h6
          exact h6
        have hnx := nx_put hst.nx.rel hN hG hno cs arr e h2 h3
        have hfn : gk os Hs (with_ S i) os.length = fun x => if x = (Hs i).nxt then some (.own cs) else gk os Hs S os.length x := by
          funext x
          rw [gk_N hcan hm hn hxo hE x, h1]
          simp only [Heap.push]
          by_cases hx : x = (Hs i).nxt
          · subst hx
            simp
          · simp only [if_neg hx]
            rw [if_neg (by omega)]
        rw [← hfn] at hnx
        refine wp_of_run h4 (hK _ _ (ρ.at_ (Hs i).nxt (⟨w.heap.size, 0, none⟩, arr.size)) ⟨?_, ?_, ?_⟩)
        · exact hst.nx.trans hnx
        · rw [tk_put hcan hn hxo, hd]
          exact (hst.slots.le hnx.le).putO (h5 _ _ (Map.at_self _ _ _))
        · intro x y hxy
          by_cases hx : x = (Hs i).nxt
          · subst hx
            exact .inr ⟨i, hlt, with_self, Nat.le_refl _, by rw [h1]; exact Nat.lt_succ_self _⟩
          · have h6 : ρ x = some y := by simpa [Map.at_, hx] using hxy
            rcases hst.dom x y h6 with h6 | ⟨k, h6, h7, h8⟩
            · exact .inl h6
            · exact .inr ⟨k, h6, with_mono h7, h8⟩
      | false =>
        have hh := (step_kind hs hE).2 hA
        have hs2 := step_frame (H2 := ⟨gk os Hs S os.length, (Hs os.length).nxt⟩) hs hE hA (by
          rintro x ⟨p, off, ⟨h1, h2⟩ | ⟨h1, nn, sz, h2⟩⟩
          · refine gk_L hcan hn hxo hwt ⟨p, off, .inl ⟨h1, ?_⟩⟩
            rw [← h2]
            refine (ev_congr (fun t ht => hl' t ?_)).symm
            rcases h1 with h1 | ⟨m, h1⟩ <;> rw [h1] <;> exact ht
          · refine gk_L hcan hn hxo hwt ⟨p, off, .inr ⟨h1, nn, sz, ?_⟩⟩
            rw [← h2]
            refine (ev_congr (fun t ht => hl' t ?_)).symm
            rw [h1]
            exact ht)
        refine op_sound hop hst.slots hst.nx.rel hs2 (fun v' w' ρ' hv' hN => hK _ _ ρ' ⟨?_, ?_, ?_⟩)
        · rw [gk_quiet hcan hm hwf hn hxo hh]
          exact hst.nx.trans hN.nx
        · rw [tk_put hcan hn hxo, hd]
          exact (hst.slots.le hN.le).putO hv'
        · intro x y hxy
          have h6 := hN.old x y (hN.rel.fresh x y hxy) hxy
          rcases hst.dom x y h6 with h6 | ⟨k, h6, h7, h8⟩
          · exact .inl h6
          · exact .inr ⟨k, h6, with_mono h7, h8⟩
  · rw [hw, hwt, if_neg (by simp)]
    refine hK _ _ ρ ⟨?_, ?_, ?_⟩
    · rw [gk_quiet hcan hm hwf hn hxo hh]
      exact hst.nx
    · rw [tk_put hcan hn hxo, hd, hv]
      exact hst.slots.putO (VR.undef_ _)
    · intro x y hxy
      rcases hst.dom x y hxy with h6 | ⟨k, h6, h7, h8⟩
      · exact .inl h6
      · exact .inr ⟨k, h6, with_mono h7, h8⟩
/-! ### The whole region -/
def left (S : Nat → Bool) : Nat → Nat
  | 0 => 0
  | m + 1 => left S m + if S m = true then 0 else 1
theorem left_zero : ∀ {m : Nat}, left S m = 0 → ∀ k, k < m → S k = true
  | 0, _, k, hk => by omega
  | m + 1, h, k, hk => by
    simp only [left] at h
    by_cases hS : S m = true
    · rw [if_pos hS] at h
      by_cases e : k = m
      · rw [e]; exact hS
      · exact left_zero (by omega) k (by omega)
    · rw [if_neg hS] at h; omega
theorem left_same : ∀ {m : Nat}, m ≤ i → left (with_ S i) m = left S m
  | 0, _ => rfl
  | m + 1, h => by
    have h1 := left_same (m := m) (show m ≤ i by omega)
    simp only [left, h1, with_ne (S := S) (i := i) (show m ≠ i by omega)]
theorem left_with (hS : S i = false) : ∀ {m : Nat}, i < m → left (with_ S i) m + 1 = left S m
  | 0, h => by omega
  | m + 1, h => by
    simp only [left]
    by_cases e : m = i
    · subst e
      rw [left_same (Nat.le_refl _), with_self, if_pos rfl, if_neg (by rw [hS]; simp)]
    · have := left_with hS (m := m) (by omega)
      rw [with_ne e]
      omega
def ofL (l : Array Bool) : Nat → Bool := fun k => l.getD k false
theorem ofL_set {l : Array Bool} (h : i < l.size) : ofL (l.setIfInBounds i true) = with_ (ofL l) i := by
  funext k
  simp only [ofL, with_, Array.getD_eq_getD_getElem?, Array.getElem?_setIfInBounds]
  by_cases hk : k = i
  · subst hk; simp [h]
  · rw [if_neg (fun e => hk e.symm), if_neg hk]
theorem directs_mem {o : Oper} {d : Nat} (h : d ∈ directs o) : ∃ e ∈ o.after.toList, Region.binds .any e = true ∧ e.on = d := by
  simp only [directs, List.mem_filterMap] at h
  obtain ⟨e, h1, h2⟩ := h
  split at h2
  · rename_i hb
    injection h2 with h2
    exact ⟨e, h1, hb, h2⟩
  · cases h2
theorem ready_mem {l : Array Bool} (h : i ∈ Region.ready .any ops l) : i < ops.size ∧ l.getD i true = false ∧ ∃ o, ops[i]? = some o ∧ ∀ e ∈ o.after.toList, Region.binds .any e = true → l.getD e.on false = true := by
  simp only [Region.ready, List.mem_filter, List.mem_range, Bool.and_eq_true, Bool.not_eq_true'] at h
  obtain ⟨h1, h2, h3⟩ := h
  refine ⟨h1, h2, ops[i], by simp [h1], fun e he hb => ?_⟩
  have h4 : ops[i]? = some ops[i] := by simp [h1]
  rw [h4] at h3
  simp only [Option.map_some, Option.getD_some, Array.all_eq_true', Bool.or_eq_true, Bool.not_eq_true'] at h3
  rcases h3 e (by simpa using he) with h5 | h5
  · rw [hb] at h5; cases h5
  · exact h5
theorem ready_of {l : Array Bool} {o : Oper} (h1 : i < ops.size) (h2 : l.getD i true = false) (h3 : ops[i]? = some o) (h4 : ∀ e ∈ o.after.toList, Region.binds .any e = true → l.getD e.on false = true) : i ∈ Region.ready .any ops l := by
  simp only [Region.ready, List.mem_filter, List.mem_range, Bool.and_eq_true, Bool.not_eq_true']
  refine ⟨h1, h2, ?_⟩
  rw [h3]
  simp only [Option.map_some, Option.getD_some, Array.all_eq_true', Bool.or_eq_true, Bool.not_eq_true']
  intro e he
  cases hb : Region.binds .any e with
  | false => exact .inl rfl
  | true => exact .inr (h4 e (by simpa using he) hb)
theorem ofL_in {l : Array Bool} (h : i < l.size) : l.getD i true = ofL l i := by
  unfold ofL
  rw [Array.getD_eq_getD_getElem?, Array.getD_eq_getD_getElem?]
  simp [h]
theorem now_of (hcan : Can P C n ops pre os Ts Hs vs) {l : Array Bool} (hs : l.size = ops.size) (hcl : Closed pre os.length (ofL l)) (h : i ∈ Region.ready .any ops l) : Now pre os.length (ofL l) i := by
  obtain ⟨h1, h2, o, h3, h4⟩ := ready_mem h
  have hi : i < os.length := by rw [hcan.len]; exact h1
  refine ⟨hi, by rw [← ofL_in (by omega)]; exact h2, hcl, fun j hj => ?_⟩
  obtain ⟨o', ho', d, hd, h5⟩ := hcan.d2 i j hi hj
  rw [h3] at ho'; injection ho' with ho'; subst ho'
  have hdi := (hcan.d1 i o h3 d hd).1
  obtain ⟨e, he, hb, rfl⟩ := directs_mem hd
  have h6 : ofL l e.on = true := h4 e he hb
  rcases h5 with h5 | h5
  · rw [← h5]; exact h6
  · exact hcl e.on (by omega) h6 j h5
theorem closed_with (hn : Now pre os.length S i) : Closed pre os.length (with_ S i) := by
  intro k hk hS j hj
  by_cases e : k = i
  · subst e; exact with_mono (hn.ahead j hj)
  · rw [with_ne e] at hS
    exact with_mono (hn.closed k hk hS j hj)
theorem none_ready (hcan : Can P C n ops pre os Ts Hs vs) {l : Array Bool} (hs : l.size = ops.size) (h : Region.ready .any ops l = []) : ∀ k, k < os.length → ofL l k = true := by
  intro k
  induction k using Nat.strongRecOn with
  | _ k ih =>
    intro hk
    cases hS : ofL l k with
    | true => rfl
    | false =>
      exfalso
      have hk' : k < ops.size := by rw [← hcan.len]; exact hk
      have hko : ops[k]? = some ops[k] := by simp [hk']
      have : k ∈ Region.ready .any ops l := ready_of hk' (by rw [ofL_in (by omega)]; exact hS) hko (fun e he hb => by
        have hd : e.on ∈ directs ops[k] := by
          simp only [directs, List.mem_filterMap]
          exact ⟨e, he, by rw [if_pos hb]⟩
        have := (hcan.d1 k _ hko e.on hd).1
        exact ih e.on this (by omega))
      rw [h] at this
      cases this
theorem any_of (hC : CallSound P C) (hcan : Can P C n ops pre os Ts Hs vs) (hm : ∀ k, k < os.length → (Hs k).nxt ≤ (Hs (k + 1)).nxt) (hwf : ∀ k, k ≤ os.length → Wf n (Ts k) (Hs k))
    (hQ : ∀ a w ρ S, (∀ k, k < os.length → S k = true) → St n os Ts Hs vs ρ0 w0 S a w ρ → Q .normal a w) : ∀ (fuel : Nat) (l : Array Bool) (a : Act) (w : World) (ρ : Map), l.size = ops.size → Closed pre os.length (ofL l) → left (ofL l) os.length ≤ fuel →
      St n os Ts Hs vs ρ0 w0 (ofL l) a w ρ → wpAny P .any ops Q fuel l a w := by
  intro fuel
  induction fuel with
  | zero =>
    intro l a w ρ hs hcl hle hst
    have hall := left_zero (S := ofL l) (m := os.length) (by omega)
    refine ⟨?_, hQ a w ρ _ hall hst⟩
    cases hr : Region.ready .any ops l with
    | nil => rfl
    | cons i rest =>
      have hn := now_of hcan hs hcl (i := i) (by rw [hr]; simp)
      have := hall i hn.lt
      rw [hn.not] at this
      cases this
  | succ fuel ih =>
    intro l a w ρ hs hcl hle hst
    refine ⟨fun hr => hQ a w ρ _ (none_ready hcan hs hr) hst, fun i hi => ?_⟩
    have hn := now_of hcan hs hcl hi
    have hil : i < l.size := by rw [hs, ← hcan.len]; exact hn.lt
    refine st_step hC hcan hm hwf hn hst (fun a' w' ρ' hst' => ih _ a' w' ρ' (by simpa using hs) ?_ ?_ ?_)
    · rw [ofL_set hil]; exact closed_with hn
    · rw [ofL_set hil]
      have := left_with hn.not hn.lt
      omega
    · rw [ofL_set hil]; exact hst'
theorem ofL_none {m : Nat} : ofL (Array.replicate m false) = fun _ => false := by
  funext k
  unfold ofL
  rw [Array.getD_eq_getD_getElem?, Array.getElem?_replicate]
  split <;> rfl
theorem left_none : ∀ m, left (fun _ => false) m = m
  | 0 => rfl
  | m + 1 => by simp [left, left_none m]
theorem tk_none (T : Tm) : ∀ k, tk os vs T (fun _ => false) k = T
  | 0 => rfl
  | k + 1 => by rw [tk_succ_false rfl]; exact tk_none T k
theorem gk_none : ∀ k, gk os Hs (fun _ => false) k = (Hs 0).get
  | 0 => rfl
  | k + 1 => by funext x; rw [gk_false rfl, gk_none k]
/-- A region whose order is open. -/
theorem dreg_sound (hmo : P.follows .mixedOrders = true) (hC : CallSound P C) {id : Nat} {a : Act} {w : World} {ρ : Map} {T : Tm} {H : Heap} {Kx : Tm → Heap → Prop} (hos : cops P n ops = some os) (hd : dregOk ops pre os = true)
    (hT : TRel ρ n T a) (hR : Rel ρ H w) (h : Dops C pre 0 os [] Kx T H) (hQ : ∀ T' H' ρ' a' w', Kx T' H' → TRel ρ' n T' a' → Next ρ H w ρ' H' w' → Q .normal a' w') : (Code.region id ops true).wp P Q a w := by
  obtain ⟨Ts, Hs, vs, hcan, e1, e2, hK⟩ := can_of hos hd h
  subst e1
  subst e2
  have hR0 : Rel ρ (Hs 0) { w with drawn := w.drawn + 1 } := hR.drawn rfl
  obtain ⟨hall, hm⟩ := canon_wf hC hcan hR0 hT
  have hwf : ∀ k, k ≤ os.length → Wf n (Ts k) (Hs k) := fun k hk => by
    obtain ⟨ρ', a', w', h1, h2⟩ := hall k hk
    exact wf_of h1 h2
  refine wp_region_any hmo (any_of (ρ0 := ρ) (w0 := { w with drawn := w.drawn + 1 }) hC hcan hm hwf ?_ ops.size _ a _ ρ (by simp) ?_ ?_ ?_)
  · intro a' w' ρ' S hS hst
    have h1 : gk os Hs S os.length = (Hs os.length).get := funext fun x => gk_all hcan hS os.length (Nat.le_refl _) x
    have h2 := hst.nx
    rw [h1] at h2
    have h3 := hst.slots
    rw [tk_all hcan hS os.length (Nat.le_refl _)] at h3
    refine hQ _ _ ρ' a' w' hK h3 ((Next.drawn (w' := { w with drawn := w.drawn + 1 }) hR rfl rfl rfl rfl).trans ⟨h2.le, h2.rel, h2.os, h2.tape, h2.output, h2.size, nxt_mono hm (Nat.zero_le _) (Nat.le_refl _), h2.frame, h2.from_, h2.views, ?_⟩)
    intro x y hx hxy
    rcases hst.dom x y hxy with h4 | ⟨k, h4, h5, h6, h7⟩
    · exact h4.2
    · have := nxt_mono hm (show 0 ≤ k by omega) (by omega)
      omega
  · rw [ofL_none]; intro i hi hS; cases hS
  · rw [ofL_none, left_none, hcan.len]; exact Nat.le_refl _
  · rw [ofL_none]
    have hle := nxt_mono hm (Nat.zero_le _) (Nat.le_refl os.length)
    refine ⟨⟨Map.le_refl _, ?_, rfl, rfl, rfl, Nat.le_refl _, fun _ _ _ => rfl, ?_, ?_⟩, ?_, ?_⟩
    · rw [gk_none]
      exact ⟨hR0.view, hR0.own, hR0.apart, fun x ob hx => Nat.lt_of_lt_of_le (hR0.lt x ob hx) hle, fun x y hx => Nat.lt_of_lt_of_le (hR0.fresh x y hx) hle⟩
    · rw [gk_none]
      exact fun b hb => .inr hb
    · rw [gk_none]
      exact fun x cs hx => hx
    · rw [tk_none]; exact hT
    · exact fun x y hxy => .inl ⟨hR0.fresh x y hxy, hxy⟩
end
end Go.Proofs.Ytjjglonmaajjoaa.AX
namespace Go.Proofs.Ytjjglonmaajjoaa.AX
open Go

def toExit : XE → Exit
  | .nrm => .normal
  | .ex i => .exit i
  | .rt => .ret
def Qx (n : Nat) (ρ : Map) (H : Heap) (w : World) (K : XE → Tm → Heap → Prop) (e : Exit) (a : Act) (w' : World) : Prop :=
  ∃ xe T' H' ρ', e = toExit xe ∧ K xe T' H' ∧ TRel ρ' n T' a ∧ Next ρ H w ρ' H' w'
section
variable {P : Program} {C : CallRel} {n : Nat}
theorem Qx.later {ρ ρ1 : Map} {H H1 : Heap} {w w1 : World} {K : XE → Tm → Heap → Prop} (hN : Next ρ H w ρ1 H1 w1) {e : Exit} {a : Act} {w' : World} (h : Qx n ρ1 H1 w1 K e a w') : Qx n ρ H w K e a w' := by
  obtain ⟨xe, T', H', ρ', h1, h2, h3, h4⟩ := h
  exact ⟨xe, T', H', ρ', h1, h2, h3, hN.trans h4⟩
theorem dead_W {K : XE → Tm → Heap → Prop} {T : Tm} {H : Heap} (h : W C (.loop .skip) K T H) : False := by
  obtain ⟨m, h⟩ := h
  induction m with
  | zero => exact h
  | succ m ih => exact ih h
theorem code_sound (hmo : P.follows .mixedOrders = true) (hC : CallSound P C) : ∀ (c : Code) (x : X), ccode P n c = some x → ∀ (K : XE → Tm → Heap → Prop) (T : Tm) (H : Heap) (ρ : Map) (a : Act) (w : World), TRel ρ n T a → Rel ρ H w → W C x K T H → c.wp P (Qx n ρ H w K) a w := by
  intro c
  induction c with
  | skip =>
    intro x hx K T H ρ a w hT hR h
    simp only [ccode, Option.some.injEq] at hx
    subst hx
    exact wp_skip ⟨.nrm, T, H, ρ, rfl, h, hT, Next.refl hR⟩
  | region id ops draw =>
    intro x hx K T H ρ a w hT hR h
    cases draw with
    | false =>
      simp only [ccode] at hx
      split at hx
      case h_2 =>
        injection hx with hx
        subst hx
        exact (dead_W h).elim
      rename_i os hos
      injection hx with hx
      subst hx
      exact wp_region_list (reg_sound hC ops.toList os a w ρ T H (K .nrm) hos hT hR h (fun T' H' ρ' a' w' h1 h2 h3 => ⟨.nrm, T', H', ρ', rfl, h1, h2, h3⟩))
    | true =>
      simp only [ccode] at hx
      split at hx
      case h_2 =>
        injection hx with hx
        subst hx
        exact (dead_W h).elim
      rename_i os hos
      split at hx
      · rename_i hd
        simp only [Option.some.injEq] at hx
        subst hx
        exact dreg_sound hmo hC hos hd hT hR h (fun T' H' ρ' a' w' h1 h2 h3 => ⟨.nrm, T', H', ρ', rfl, h1, h2, h3⟩)
      · injection hx with hx
        subst hx
        exact (dead_W h).elim
  | seq c1 c2 ih1 ih2 =>
    intro x hx K T H ρ a w hT hR h
    simp only [ccode] at hx
    split at hx
    · rename_i x1 x2 h1 h2
      simp only [Option.some.injEq] at hx
      subst hx
      refine wp_seq (wp_mono (ih1 x1 h1 _ T H ρ a w hT hR h) ?_)
      rintro e a' w' ⟨xe, T', H', ρ', rfl, h3, h4, h5⟩
      cases xe with
      | nrm => exact wp_mono (ih2 x2 h2 K T' H' ρ' a' w' h4 h5.rel h3) (fun e a w hq => hq.later h5)
      | ex i => exact ⟨.ex i, T', H', ρ', rfl, h3, h4, h5⟩
      | rt => exact ⟨.rt, T', H', ρ', rfl, h3, h4, h5⟩
    · cases hx
  | cond y c1 c2 ih1 ih2 =>
    intro x hx K T H ρ a w hT hR h
    simp only [ccode] at hx
    split at hx
    · rename_i z x1 x2 h0 h1 h2
      simp only [Option.some.injEq] at hx
      subst hx
      have hv := ev_sound h0 hT
      simp only [W, bcond] at h
      split at h
      · rename_i b hb
        rw [hb] at hv
        refine wp_cond hv.bool ?_
        cases b with
        | true => exact ih1 x1 h1 K T H ρ a w hT hR (by simpa using h)
        | false => exact ih2 x2 h2 K T H ρ a w hT hR (by simpa using h)
      · exact h.elim
    · cases hx
  | block id c ih =>
    intro x hx K T H ρ a w hT hR h
    simp only [ccode, Option.map_eq_some_iff] at hx
    obtain ⟨x1, h1, rfl⟩ := hx
    refine wp_block (wp_mono (ih x1 h1 _ T H ρ a w hT hR h) ?_)
    rintro e a' w' ⟨xe, T', H', ρ', rfl, h3, h4, h5⟩
    cases xe with
    | nrm => exact ⟨.nrm, T', H', ρ', rfl, h3, h4, h5⟩
    | ex i =>
      simp only [toExit, Exit.inBlock]
      simp only [inBlock] at h3
      split
      · rename_i he
        rw [if_pos he] at h3
        exact ⟨.nrm, T', H', ρ', rfl, h3, h4, h5⟩
      · rename_i he
        rw [if_neg he] at h3
        exact ⟨.ex i, T', H', ρ', rfl, h3, h4, h5⟩
    | rt => exact ⟨.rt, T', H', ρ', rfl, h3, h4, h5⟩
  | loop c ih =>
    intro x hx K T H ρ a w hT hR h
    simp only [ccode, Option.map_eq_some_iff] at hx
    obtain ⟨x1, h1, rfl⟩ := hx
    obtain ⟨m, h⟩ := h
    refine wp_loop_rounds m ?_
    have key : ∀ (m : Nat) (T1 : Tm) (H1 : Heap) (ρ1 : Map) (a1 : Act) (w1 : World), TRel ρ1 n T1 a1 → Next ρ H w ρ1 H1 w1 → lp (W C x1) K m T1 H1 → Code.rounds P c (Qx n ρ H w K) m a1 w1 := by
      intro m
      induction m with
      | zero => intro T1 H1 ρ1 a1 w1 _ _ h; exact h.elim
      | succ m ihm =>
        intro T1 H1 ρ1 a1 w1 hT1 hN1 h
        refine wp_mono (ih x1 h1 _ T1 H1 ρ1 a1 w1 hT1 hN1.rel h) ?_
        rintro e a' w' ⟨xe, T', H', ρ', rfl, h3, h4, h5⟩
        cases xe with
        | nrm => exact ihm T' H' ρ' a' w' h4 (hN1.trans h5) h3
        | ex i => exact ⟨.ex i, T', H', ρ', rfl, h3, h4, hN1.trans h5⟩
        | rt => exact ⟨.rt, T', H', ρ', rfl, h3, h4, hN1.trans h5⟩
    exact key m T H ρ a w hT (Next.refl hR) h
  | exit id =>
    intro x hx K T H ρ a w hT hR h
    simp only [ccode, Option.some.injEq] at hx
    subst hx
    exact wp_exit ⟨.ex id, T, H, ρ, rfl, h, hT, Next.refl hR⟩
  | ret =>
    intro x hx K T H ρ a w hT hR h
    simp only [ccode, Option.some.injEq] at hx
    subst hx
    exact wp_ret ⟨.rt, T, H, ρ, rfl, h, hT, Next.refl hR⟩
  | _ =>
    intro x hx
    simp [ccode] at hx
/-! ### What a function returns -/
def resRun (r : ResultVar) (tmps : Array Value) : Sem Value :=
  match r with
  | .tmp t => pure (tmps.getD t undef)
  | .cell a t => do loadVar t (← asAddr (tmps.getD a undef))
theorem res1_sound {ρ : Map} {T : Tm} {H : Heap} {a : Act} {w : World} (hT : TRel ρ n T a) (hR : Rel ρ H w) {r : ResultVar} {x : XRes} (hr : cres P n r = some x) {v : Value} (h : res1 T H x = some v) :
    ∃ v', (resRun r a.tmps).run P w = .ok v' w ∧ VA ρ v v' := by
  cases r with
  | tmp t =>
    simp only [cres] at hr
    split at hr
    · rename_i ht
      injection hr with hr; subst hr
      simp only [res1] at h
      split at h
      · rename_i hn
        injection h with h; subst h
        exact ⟨_, rfl, (hT.val t ht).noTup_ hn⟩
      · cases h
    · cases hr
  | cell t ty =>
    simp only [cres] at hr
    split at hr
    · rename_i ht
      have h1 := hT.val t ht
      split at hr
      · rename_i ha
        simp only [Option.map_eq_some_iff] at hr
        obtain ⟨m, hm, rfl⟩ := hr
        simp only [res1, Option.map_eq_some_iff] at h
        obtain ⟨⟨v0, H0⟩, hs, rfl⟩ := h
        simp only [step, ev] at hs
        split at hs
        · rename_i i off he
          split at hs
          · rename_i ob hi
            split at hs
            · rename_i hl
              simp only [Option.some.injEq, Prod.mk.injEq] at hs
              obtain ⟨rfl, rfl⟩ := hs
              rw [he] at h1
              obtain ⟨b, L, hr, hp⟩ := h1.ptr
              obtain ⟨cs, h2, h3, h4⟩ := seg_of hR hi hr off m hl
              simp only [csize, Option.map_eq_some_iff] at hm
              obtain ⟨ti, hti, rfl⟩ := hm
              have hlc := run_loadCells_list (P := P) w (b.add off) cs h4
              rw [h2] at hlc
              refine ⟨.agg cs.toArray, ?_, .agg (by simpa using h3)⟩
              simp [resRun, hp, asAddr, loadVar, run_isAgg_true ha, sizeOf, typeInfo, hti, hlc]
            · cases hs
          · cases hs
        · cases hs
      · rename_i ha
        injection hr with hr; subst hr
        simp only [res1, Option.map_eq_some_iff] at h
        obtain ⟨⟨v0, H0⟩, hs, rfl⟩ := h
        simp only [step, ev] at hs
        split at hs
        · rename_i i off he
          split at hs
          · rename_i ob hi
            split at hs
            · rename_i u hu
              simp only [Option.some.injEq, Prod.mk.injEq] at hs
              obtain ⟨rfl, rfl⟩ := hs
              rw [he] at h1
              obtain ⟨b, L, hr, hp⟩ := h1.ptr
              obtain ⟨c', h2, h3⟩ := cells_of hR hi hr off u hu
              simp only [cagg] at ha
              have hagg : (isAgg ty).run P w = .ok false w := by
                cases hu' : P.underlying ty with
                | none => simp [hu'] at ha
                | some d =>
                  rw [hu'] at ha
                  cases d <;> simp at ha <;> simp [isAgg, run_underlying hu']
              refine ⟨c', ?_, .leaf h3⟩
              simp [resRun, hp, asAddr, loadVar, hagg, run_load, h2]
            · cases hs
          · cases hs
        · cases hs
      · cases hr
    · cases hr
theorem resAll_sound {ρ : Map} {T : Tm} {H : Heap} {a : Act} {w : World} (hT : TRel ρ n T a) (hR : Rel ρ H w) : ∀ (rs : List ResultVar) (xs : List XRes), rs.mapM (cres P n) = some xs → ∀ vs, resAll T H xs = some vs →
    ∃ vs' : List Value, (rs.mapM (fun r => resRun r a.tmps)).run P w = .ok vs' w ∧ All2 (VA ρ) vs vs'
  | [], xs, hx, vs, h => by
    simp at hx
    subst hx
    simp [resAll] at h
    subst h
    exact ⟨[], rfl, .nil⟩
  | r :: rs, xs, hx, vs, h => by
    simp only [List.mapM_cons, Option.bind_eq_bind, Option.bind_eq_some_iff, Option.pure_def, Option.some.injEq] at hx
    obtain ⟨x, hx1, xs', hx2, rfl⟩ := hx
    simp only [resAll] at h
    split at h
    · rename_i v vs1 h1 h2
      injection h with h; subst h
      obtain ⟨v', h3, h4⟩ := res1_sound hT hR hx1 h1
      obtain ⟨vs', h5, h6⟩ := resAll_sound hT hR rs xs' hx2 vs1 h2
      refine ⟨v' :: vs', ?_, .cons h4 h6⟩
      simp [List.mapM_cons, h3, h5]
    · cases h
theorem one_vr {ρ : Map} {vs vs' : List Value} (h : All2 (VA ρ) vs vs') : VR ρ (one_ vs) (if h : vs'.toArray.size = 1 then vs'.toArray[0] else .tuple vs'.toArray) := by
  cases h with
  | nil => exact .tup (by simpa using All2.nil)
  | cons h1 h2 =>
    cases h2 with
    | nil => exact .one h1
    | cons h2 h3 =>
      rw [dif_neg (by simp)]
      exact .tup (by simpa using All2.cons h1 (All2.cons h2 h3))
theorem start_rel {ρ : Map} {args : List Value} {args' : Array Value} {m : Nat} (h : All2 (VR ρ) args args'.toList) (hle : args.length ≤ m) : TRel ρ m (T0 args) { tmps := args' ++ Array.replicate (m - args'.size) undef, defers := [] } := by
  have hl : args.length = args'.size := by simpa using h.length
  refine ⟨by simp; omega, fun t ht => ?_, rfl⟩
  simp only [T0, List.getD_eq_getElem?_getD, Array.getD_eq_getD_getElem?, Array.getElem?_append]
  by_cases hlt : t < args.length
  · have h1 : args[t]? = some args[t] := List.getElem?_eq_getElem hlt
    obtain ⟨b, h2, h3⟩ := h.get t _ h1
    rw [if_pos (by omega), h1]
    rw [Array.getElem?_toList] at h2
    rw [h2]
    exact h3
  · rw [if_neg (by omega), List.getElem?_eq_none (by omega), Array.getElem?_replicate]
    split <;> exact VR.undef_ _
/-! ### Calls -/
theorem cfun_enter {f : FuncId} {F : XFun} (hF : cfun P f = some F) : Enterable P f := by
  unfold cfun at hF
  split at hF
  · rename_i fn hfn
    split at hF
    · rename_i c hc
      split at hF
      · split at hF
        · rename_i hps
          exact ⟨fn, hfn, hps.2, by rw [hc]; rfl⟩
        · cases hF
      · cases hF
    · cases hF
  · cases hF
theorem crk_sound (hmo : P.follows .mixedOrders = true) : ∀ k, CallSound P (CRk P k)
  | 0 => fun _ _ _ _ _ h => h.elim
  | k + 1 => by
    intro f args H v H' h
    rcases h with ⟨F, hF, ha, hW⟩ | h
    case inr => exact .inr h
    refine .inl ⟨cfun_enter hF, fun ρ w args' hR hA => ?_⟩
    unfold cfun at hF
    split at hF
    · rename_i fn hfn
      split at hF
      · rename_i c hc
        split at hF
        · rename_i b rs hb hrs
          split at hF
          · rename_i hps
            injection hF with hF
            subst hF
            refine calls_of_wp hfn hc (wp_mono (code_sound hmo (crk_sound hmo k) c b hb _ (T0 args) H ρ _ w (start_rel hA (by simp only at ha; omega)) hR hW) ?_)
            rintro e a' w' ⟨xe, T', H1, ρ', rfl, ⟨h1, rfl, vs, h2, rfl⟩, h4, h5⟩
            obtain ⟨vs', h6, h7⟩ := resAll_sound h4 h5.rel fn.results.toList rs hrs vs h2
            have hres : (results fn a'.tmps).run P w' = .ok (if h : vs'.toArray.size = 1 then vs'.toArray[0] else .tuple vs'.toArray) w' := by
              have e1 : results fn a'.tmps = (do
                  let vs ← fn.results.mapM fun r => resRun r a'.tmps
                  pure (if h : vs.size = 1 then vs[0] else .tuple vs)) := by
                unfold results
                congr 1
              rw [e1, Array.mapM_eq_mapM_toList]
              simp only [bind_assoc, map_eq_pure_bind, pure_bind, Sem.run_bind, h6]
              rfl
            have hpost : a'.defers = [] ∧ ∃ v, (results fn a'.tmps).run P w' = .ok v w' ∧ (fun (e : Ending) w'' => ∃ v' ρ', e = .returned v' ∧ VR ρ' (one_ vs) v' ∧ Next ρ H w ρ' H' w'') (.returned v) w' :=
              ⟨h4.defers, _, hres, _, ρ', rfl, one_vr h7, h5⟩
            cases xe with
            | nrm => exact hpost
            | rt => exact hpost
            | ex i => exact h1.elim
          · cases hF
        · cases hF
      · cases hF
    · cases hF
theorem cr_sound (hmo : P.follows .mixedOrders = true) : CallSound P (CR P) := by
  rintro f args H v H' ⟨k, h⟩
  exact crk_sound hmo k f args H v H' h
end
end Go.Proofs.Ytjjglonmaajjoaa.AX
namespace Go.Proofs.Ytjjglonmaajjoaa.AX
open Go Go.RowKit Go.WideShapes

/-- What was there stands as it stood. -/
structure Keep (H H' : Heap) : Prop where
  nxt : H.nxt ≤ H'.nxt
  get : ∀ i, i < H.nxt → H'.get i = H.get i
theorem Keep.refl (H : Heap) : Keep H H := ⟨Nat.le_refl _, fun _ _ => rfl⟩
theorem Keep.trans {H H1 H2 : Heap} (h : Keep H H1) (k : Keep H1 H2) : Keep H H2 := ⟨Nat.le_trans h.nxt k.nxt, fun i hi => (k.get i (Nat.lt_of_lt_of_le hi h.nxt)).trans (h.get i hi)⟩
theorem Keep.push (H : Heap) (cs : List Value) : Keep H (H.push cs) := ⟨Nat.le_succ _, fun i hi => by rw [push_get, if_neg (by omega)]⟩
/-- A slice of n elements of sz cells each, and what its cells hold. -/
def Sl (H : Heap) (v : Value) (sz n : Nat) (cs : List Value) : Prop :=
  cs.length = n * sz ∧ ((v = .slice none 0 0 ∧ n = 0) ∨ ∃ i o, v = .slice (some ⟨i, o, none⟩) n sz ∧ i < H.nxt ∧ ∀ j c, cs[j]? = some c → ∃ ob, H.get i = some ob ∧ ob.cells[o + j]? = some c)
theorem Sl.keep {H H' : Heap} {v : Value} {sz n : Nat} {cs : List Value} (h : Sl H v sz n cs) (k : Keep H H') : Sl H' v sz n cs := by
  obtain ⟨h1, h2⟩ := h
  refine ⟨h1, ?_⟩
  rcases h2 with h2 | ⟨i, o, h2, h3, h4⟩
  · exact .inl h2
  · refine .inr ⟨i, o, h2, Nat.lt_of_lt_of_le h3 k.nxt, fun j c hj => ?_⟩
    obtain ⟨ob, h5, h6⟩ := h4 j c hj
    exact ⟨ob, by rw [k.get i h3]; exact h5, h6⟩
/-- Cells that hold a value of type t, over a heap. -/
def Good (P : Program) (H : Heap) : Nat → TypeId → List Value → Prop
  | 0, _, _ => False
  | m + 1, t, xs => match P.underlying t with
    | some .bool => ∃ b, xs = [.bool b]
    | some (.int k) => ∃ n, xs = [.int k n] ∧ (Lit.int k n).wf = true
    | some (.float k) => ∃ b, xs = [.float k b] ∧ (Lit.float k b).wf = true
    | some .string => ∃ s, xs = [.string s] ∧ s.size ≤ maxLen
    | some (.slice e) => ∃ (v : Value) (rows : List (List Value)), xs = [v] ∧ Sl H v (P.cellsOf e) rows.length rows.flatten ∧ rows.length ≤ maxLen ∧ ∀ r ∈ rows, r.length = P.cellsOf e ∧ Good P H m e r
    | some (.struct fs) => xs.length = P.cellsOf t ∧ ∀ f ∈ fs.toList, Good P H m f.type ((xs.drop f.offset).take (P.cellsOf f.type))
    | _ => False
theorem Good.keep {P : Program} {H H' : Heap} (k : Keep H H') : ∀ (m : Nat) (t : TypeId) (xs : List Value), Good P H m t xs → Good P H' m t xs := by
  intro m
  induction m with
  | zero => intro t xs h; exact h.elim
  | succ m ih =>
    intro t xs h
    unfold Good at h ⊢
    split <;> simp_all
    · obtain ⟨v, h1, rows, h2, h3, h4⟩ := h
      exact ⟨v, h1, rows, h2.keep k, h3, fun r hr => ⟨(h4 r hr).1, ih _ _ (h4 r hr).2⟩⟩
/-- The fields of a struct lie one behind the other. -/
def laid (P : Program) : List Field → Nat → Nat → Bool
  | [], o, n => o == n
  | f :: fs, o, n => f.offset == o && laid P fs (o + P.cellsOf f.type) n
/-- A type made of numbers, truth values, strings, slices and structs alone. -/
def plainT (P : Program) : Nat → TypeId → Bool
  | 0, _ => false
  | m + 1, t => match P.underlying t with
    | some .bool | some (.int _) | some (.float _) | some .string => true
    | some (.slice e) => plainT P m e
    | some (.struct fs) => laid P fs.toList 0 (P.cellsOf t) && fs.toList.all fun f => plainT P m f.type
    | _ => false
def Views (H : Heap) : Prop := ∀ i ob, H.get i = some ob → ∃ cs, ob = .view cs
def Heap.view_ (H : Heap) (cs : List Value) : Heap := ⟨fun x => if x = H.nxt then some (.view cs) else H.get x, H.nxt + 1⟩
def Heap.name_ (H : Heap) : Heap := ⟨H.get, H.nxt + 1⟩
theorem Keep.view (H : Heap) (cs : List Value) : Keep H (H.view_ cs) := ⟨Nat.le_succ _, fun i hi => by simp only [Heap.view_]; rw [if_neg (by omega)]⟩
theorem Keep.name (H : Heap) : Keep H H.name_ := ⟨Nat.le_succ _, fun _ _ => rfl⟩
theorem Views.view {H : Heap} (h : Views H) (cs : List Value) : Views (H.view_ cs) := by
  intro i ob hi
  simp only [Heap.view_] at hi
  split at hi
  · injection hi with hi; exact ⟨cs, hi.symm⟩
  · exact h i ob hi
theorem rel_free {ρ : Map} {H : Heap} {w : World} (h : Rel ρ H w) : ρ H.nxt = none := by
  cases hx : ρ H.nxt with
  | none => rfl
  | some x => have := h.fresh _ _ hx; omega
theorem rel_view {ρ : Map} {H : Heap} {w : World} (h : Rel ρ H w) (hv : Views H) (cs : List Value) (b : Addr) (L : Nat) (hb : b.block < w.heap.size) (hc : ∀ j c, cs[j]? = some c → ∃ c', w.cell? (b.add j) = some c' ∧ VL ρ c c') :
    Rel (ρ.at_ H.nxt (b, L)) (H.view_ cs) w := by
  have hle : Map.le ρ (ρ.at_ H.nxt (b, L)) := Map.le_at (rel_free h)
  refine ⟨fun i vs hi => ?_, fun i vs hi => ?_, fun i j vs o g off L b' L' hi => ?_, fun i o hi => ?_, fun i x hi => ?_⟩
  · simp only [Heap.view_] at hi
    split at hi
    · rename_i e
      subst e
      injection hi with hi; injection hi with hi; subst hi
      refine ⟨b, L, Map.at_self _ _ _, hb, fun j c hj => ?_⟩
      obtain ⟨c', h1, h2⟩ := hc j c hj
      exact ⟨c', h1, h2.le hle⟩
    · obtain ⟨b1, L1, h1, h2, h3⟩ := h.view i vs hi
      refine ⟨b1, L1, hle _ _ h1, h2, fun j c hj => ?_⟩
      obtain ⟨c', h4, h5⟩ := h3 j c hj
      exact ⟨c', h4, h5.le hle⟩
  · obtain ⟨cs', e⟩ := (hv.view cs) i _ hi
    cases e
  · obtain ⟨cs', e⟩ := (hv.view cs) i _ hi
    cases e
  · simp only [Heap.view_] at hi ⊢
    split at hi
    · omega
    · have := h.lt i o hi; omega
  · simp only [Heap.view_, Map.at_] at hi ⊢
    split at hi
    · omega
    · have := h.fresh i x hi; omega
theorem rel_name {ρ : Map} {H : Heap} {w : World} (h : Rel ρ H w) (hv : Views H) (x : Addr × Nat) : Rel (ρ.at_ H.nxt x) H.name_ w := by
  have hle : Map.le ρ (ρ.at_ H.nxt x) := Map.le_at (rel_free h)
  refine ⟨fun i vs hi => ?_, fun i vs hi => ?_, fun i j vs o g off L b' L' hi => ?_, fun i o hi => ?_, fun i y hi => ?_⟩
  · obtain ⟨b1, L1, h1, h2, h3⟩ := h.view i vs hi
    refine ⟨b1, L1, hle _ _ h1, h2, fun j c hj => ?_⟩
    obtain ⟨c', h4, h5⟩ := h3 j c hj
    exact ⟨c', h4, h5.le hle⟩
  · obtain ⟨cs', e⟩ := hv i _ hi
    cases e
  · obtain ⟨cs', e⟩ := hv i _ hi
    cases e
  · exact Nat.lt_succ_of_lt (h.lt i o hi)
  · simp only [Map.at_] at hi
    split at hi
    · rename_i e; subst e; exact Nat.lt_succ_self _
    · exact Nat.lt_succ_of_lt (h.fresh i y hi)
section
variable {A : Type} {enc : TypeId × Value → A} {P : Program} {w : World} {base : Nat} {spare : Nat → Bool} {held : Bool}
theorem trod_float {k : FloatKind} {t : TypeId} {cs : List Value} {fuel : Nat} {x : DataW A × List MemPlace} (ht : P.underlying t = some (.float k)) (h : DataW.trod enc P w base spare held fuel t cs = some x) : ∃ b, cs = [.float k b] ∧ (Lit.float k b).wf = true := by
  cases fuel with
  | zero => simp [DataW.trod] at h
  | succ n =>
    unfold DataW.trod at h
    rw [ht] at h
    split at h <;> simp_all
theorem trod_string_ {t : TypeId} {cs : List Value} {fuel : Nat} {x : DataW A × List MemPlace} (ht : P.underlying t = some .string) (h : DataW.trod enc P w base spare held fuel t cs = some x) : ∃ s, cs = [.string s] ∧ s.size ≤ maxLen := by
  cases fuel with
  | zero => simp [DataW.trod] at h
  | succ n =>
    unfold DataW.trod at h
    rw [ht] at h
    split at h <;> simp_all
/-- What has been brought over so far. -/
structure Over (w : World) (ρ : Map) (H : Heap) (ρ' : Map) (H' : Heap) : Prop where
  le : Map.le ρ ρ'
  rel : Rel ρ' H' w
  views : Views H'
  keep : Keep H H'
theorem Over.trans {ρ ρ1 ρ2 : Map} {H H1 H2 : Heap} (h : Over w ρ H ρ1 H1) (k : Over w ρ1 H1 ρ2 H2) : Over w ρ H ρ2 H2 := ⟨Map.le_trans h.le k.le, k.rel, k.views, h.keep.trans k.keep⟩
theorem flatten_get {sz : Nat} : ∀ {rows : List (List Value)}, (∀ r ∈ rows, r.length = sz) → ∀ j c, rows.flatten[j]? = some c → ∃ i r, rows[i]? = some r ∧ j = i * sz + (j - i * sz) ∧ r[j - i * sz]? = some c
  | [], _, j, c, h => by simp at h
  | r :: rows, hr, j, c, h => by
    have hl := hr r (by simp)
    rw [List.flatten_cons, List.getElem?_append] at h
    split at h
    · exact ⟨0, r, rfl, by omega, by simpa using h⟩
    · rename_i hlt
      obtain ⟨i, r', h1, h2, h3⟩ := flatten_get (sz := sz) (fun r' hr' => hr r' (by simp [hr'])) _ _ h
      refine ⟨i + 1, r', by simpa using h1, ?_, ?_⟩
      · rw [Nat.add_mul, Nat.one_mul]; omega
      · rw [show j - (i + 1) * sz = j - r.length - i * sz by rw [Nat.add_mul, Nat.one_mul]; omega]
        exact h3
theorem add_add_ (a : Addr) (i j : Nat) : (a.add i).add j = a.add (i + j) := by
  unfold Addr.add
  by_cases hi : i = 0 <;> by_cases hj : j = 0 <;> simp [hi, hj, Nat.add_assoc]
theorem flatten_length {sz : Nat} : ∀ {rows : List (List Value)}, (∀ r ∈ rows, r.length = sz) → rows.flatten.length = rows.length * sz
  | [], _ => by simp
  | r :: rows, hr => by
    have h1 := flatten_length (sz := sz) (rows := rows) (fun r' hr' => hr r' (by simp [hr']))
    rw [List.flatten_cons, List.length_append, h1, hr r (by simp), List.length_cons, Nat.add_mul, Nat.one_mul, Nat.add_comm]
theorem over_of : ∀ (n m : Nat) (t : TypeId) (cs : List Value) (x : DataW A × List MemPlace) (ρ : Map) (H : Heap), plainT P m t = true → DataW.trod enc P w base spare held n t cs = some x → Rel ρ H w → Views H →
    ∃ xs ρ' H', Over w ρ H ρ' H' ∧ All2 (VL ρ') xs cs ∧ Good P H' n t xs := by
  intro n
  induction n with
  | zero => intro m t cs x ρ H _ h; simp [DataW.trod] at h
  | succ n ih =>
    intro m t cs x ρ H hp h hR hV
    have h0 : Over w ρ H ρ H := ⟨Map.le_refl _, hR, hV, Keep.refl _⟩
    cases m with
    | zero => cases hp
    | succ m =>
      unfold plainT at hp
      split at hp
      · rename_i hu
        obtain ⟨b, rfl, _⟩ := DataW.trod_bool hu h
        exact ⟨_, ρ, H, h0, .cons (.flat rfl) .nil, by unfold Good; rw [hu]; exact ⟨b, rfl⟩⟩
      · rename_i k hu
        obtain ⟨b, rfl, _, hw⟩ := DataW.trod_int hu h
        exact ⟨_, ρ, H, h0, .cons (.flat rfl) .nil, by unfold Good; rw [hu]; exact ⟨b, rfl, hw⟩⟩
      · rename_i k hu
        obtain ⟨b, rfl, hw⟩ := trod_float hu h
        exact ⟨_, ρ, H, h0, .cons (.flat rfl) .nil, by unfold Good; rw [hu]; exact ⟨b, rfl, hw⟩⟩
      · rename_i hu
        obtain ⟨s, rfl, hw⟩ := trod_string_ hu h
        exact ⟨_, ρ, H, h0, .cons (.flat rfl) .nil, by unfold Good; rw [hu]; exact ⟨s, rfl, hw⟩⟩
      · rename_i e hu
        rcases DataW.trod_slice hu h with ⟨rfl, _⟩ | ⟨a, len, cap, elems, rest, n', hn, rfl, _, hb, hl, hm, hlen, hel, _, _⟩
        · refine ⟨_, ρ, H, h0, .cons (.flat rfl) .nil, ?_⟩
          unfold Good
          rw [hu]
          exact ⟨_, [], rfl, ⟨by simp, .inl ⟨rfl, rfl⟩⟩, by simp, fun r hr => by cases hr⟩
        · injection hn with hn
          subst hn
          -- the elements, one by one
          have each : ∀ k, k ≤ len → ∃ (rows : List (List Value)) (ρ' : Map) (H' : Heap), Over w ρ H ρ' H' ∧ rows.length = k ∧ (∀ (i : Nat) (r : List Value), rows[i]? = some r → r.length = P.cellsOf e ∧ Good P H' n e r ∧ ∀ (j : Nat) (c : Value), r[j]? = some c → ∃ c', w.cell? (a.add (i * P.cellsOf e + j)) = some c' ∧ VL ρ' c c') := by
            intro k
            induction k with
            | zero => intro _; exact ⟨[], ρ, H, h0, rfl, fun i r hr => by simp at hr⟩
            | succ k ihk =>
              intro hk
              obtain ⟨rows, ρ1, H1, o1, hr1, hg1⟩ := ihk (by omega)
              have hek : elems[k]? = some elems[k] := List.getElem?_eq_getElem (by omega)
              have h1 := hel k (by omega)
              rw [hek, Option.bind_eq_some_iff] at h1
              obtain ⟨cs1, h2, h3⟩ := h1
              obtain ⟨_, h4, h5⟩ := World.cells?_some h2
              obtain ⟨xs, ρ2, H2, o2, h6, h7⟩ := ih m e cs1 _ ρ1 H1 hp h3 o1.rel o1.views
              refine ⟨rows ++ [xs], ρ2, H2, o1.trans o2, by simp [hr1], fun i r hr => ?_⟩
              rw [List.getElem?_append] at hr
              split at hr
              · obtain ⟨g1, g2, g3⟩ := hg1 i r hr
                refine ⟨g1, g2.keep o2.keep, fun j c hj => ?_⟩
                obtain ⟨c', g4, g5⟩ := g3 j c hj
                exact ⟨c', g4, g5.le o2.le⟩
              · rename_i hi
                have hi0 : i = k := by
                  have := (List.getElem?_eq_some_iff.1 hr).1
                  simp at this
                  omega
                subst hi0
                have : r = xs := by simpa [hr1] using hr.symm
                subst this
                refine ⟨by rw [h6.length, h4], h7, fun j c hj => ?_⟩
                obtain ⟨c', g1, g2⟩ := h6.get j c hj
                have hjl : j < P.cellsOf e := by rw [← h4]; exact (List.getElem?_eq_some_iff.1 g1).1
                exact ⟨c', by rw [← add_add_, h5 j hjl]; exact g1, g2⟩
          obtain ⟨rows, ρ1, H1, o1, hrl, hg⟩ := each len (Nat.le_refl _)
          have hsz : ∀ r ∈ rows, r.length = P.cellsOf e := fun r hr => by
            obtain ⟨i, hi⟩ := List.getElem?_of_mem hr
            exact (hg i r hi).1
          have hgood : ∀ r ∈ rows, Good P H1 n e r := fun r hr => by
            obtain ⟨i, hi⟩ := List.getElem?_of_mem hr
            exact (hg i r hi).2.1
          have hcells : ∀ j c, rows.flatten[j]? = some c → ∃ c', w.cell? (a.add j) = some c' ∧ VL ρ1 c c' := fun j c hj => by
            obtain ⟨i, r, h1, h2, h3⟩ := flatten_get hsz j c hj
            obtain ⟨c', h4, h5⟩ := (hg i r h1).2.2 _ c h3
            exact ⟨c', by rw [← h2] at h4; exact h4, h5⟩
          have hn0 := rel_free o1.rel
          have mk : ∀ H2 : Heap, H2.nxt = H1.nxt + 1 → Keep H1 H2 → (∀ j c, rows.flatten[j]? = some c → ∃ ob, H2.get H1.nxt = some ob ∧ ob.cells[0 + j]? = some c) → Good P H2 (n + 1) t [.slice (some ⟨H1.nxt, 0, none⟩) len (P.cellsOf e)] := fun H2 h1 hk h2 => by
            unfold Good
            rw [hu]
            refine ⟨_, rows, rfl, ⟨flatten_length hsz, .inr ⟨H1.nxt, 0, by rw [hrl], by omega, h2⟩⟩, by omega, fun r hr => ⟨hsz r hr, (hgood r hr).keep hk⟩⟩
          by_cases hnil : rows.flatten = []
          · have hle := Map.le_at (x := (a, cap * P.cellsOf e)) hn0
            refine ⟨_, ρ1.at_ H1.nxt (a, cap * P.cellsOf e), H1.name_, o1.trans ⟨hle, rel_name o1.rel o1.views _, o1.views, Keep.name _⟩, .cons ?_ .nil, mk _ rfl (Keep.name _) (fun j c hj => by rw [hnil] at hj; simp at hj)⟩
            have := VL.slc (o := 0) (n := len) (sz := P.cellsOf e) (c := cap) (Map.at_self ρ1 H1.nxt (a, cap * P.cellsOf e)) hl (by omega)
            simpa [Addr.add] using this
          · have hblk : a.block < w.heap.size := by
              obtain ⟨c, hc⟩ : ∃ c, rows.flatten[0]? = some c := by
                cases hx : rows.flatten with
                | nil => exact absurd hx hnil
                | cons c _ => exact ⟨c, rfl⟩
              obtain ⟨c', h1, _⟩ := hcells 0 c hc
              have h2 : w.cells? base (a.add 0) 1 = some [c'] := ChangeShapes.cells?_one hb h1
              exact World.cells?_block h2 (by omega)
            have hle := Map.le_at (x := (a, cap * P.cellsOf e)) hn0
            refine ⟨_, ρ1.at_ H1.nxt (a, cap * P.cellsOf e), H1.view_ rows.flatten, o1.trans ⟨hle, rel_view o1.rel o1.views _ a _ hblk hcells, o1.views.view _, Keep.view _ _⟩, .cons ?_ .nil, mk _ rfl (Keep.view _ _) (fun j c hj => ⟨.view rows.flatten, by simp [Heap.view_], by simpa [Obj.cells] using hj⟩)⟩
            have := VL.slc (o := 0) (n := len) (sz := P.cellsOf e) (c := cap) (Map.at_self ρ1 H1.nxt (a, cap * P.cellsOf e)) hl (by omega)
            simpa [Addr.add] using this
      · rename_i fs hu
        simp only [Bool.and_eq_true, List.all_eq_true] at hp
        obtain ⟨hlaid, hall⟩ := hp
        obtain ⟨xs0, n', hn, _, hcl, hxl, hf⟩ := DataW.trod_struct hu h
        injection hn with hn
        subst hn
        have key : ∀ (l : List Field) (o : Nat) (ρ : Map) (H : Heap), laid P l o cs.length = true → o ≤ cs.length → (∀ f ∈ l, plainT P m f.type = true ∧ ∃ x, DataW.trod enc P w base spare held n f.type ((cs.drop f.offset).take (P.cellsOf f.type)) = some x) → Rel ρ H w → Views H →
            ∃ xs ρ' H', Over w ρ H ρ' H' ∧ All2 (VL ρ') xs (cs.drop o) ∧ ∀ f ∈ l, o ≤ f.offset ∧ Good P H' n f.type ((xs.drop (f.offset - o)).take (P.cellsOf f.type)) := by
          intro l
          induction l with
          | nil =>
            intro o ρ H h1 h2 _ hR hV
            simp only [laid, beq_iff_eq] at h1
            exact ⟨[], ρ, H, ⟨Map.le_refl _, hR, hV, Keep.refl _⟩, by rw [List.drop_of_length_le (by omega)]; exact .nil, fun f hf => by cases hf⟩
          | cons f l ihl =>
            intro o ρ H h1 h2 h3 hR hV
            simp only [laid, Bool.and_eq_true, beq_iff_eq] at h1
            obtain ⟨hfo, h1⟩ := h1
            obtain ⟨hpf, x, hx⟩ := h3 f (by simp)
            obtain ⟨ys, ρ1, H1, o1, h4, h5⟩ := ih m f.type _ x ρ H hpf hx hR hV
            have hle : o + P.cellsOf f.type ≤ cs.length := by
              have : ∀ (l : List Field) (o : Nat), laid P l o cs.length = true → o ≤ cs.length := by
                intro l
                induction l with
                | nil => intro o h; simp only [laid, beq_iff_eq] at h; omega
                | cons g l ihl => intro o h; simp only [laid, Bool.and_eq_true, beq_iff_eq] at h; have := ihl _ h.2; omega
              exact this l _ h1
            obtain ⟨zs, ρ2, H2, o2, h6, h7⟩ := ihl _ ρ1 H1 h1 hle (fun g hg => h3 g (by simp [hg])) o1.rel o1.views
            have hyl : ys.length = P.cellsOf f.type := by
              rw [h4.length, List.length_take, List.length_drop, hfo]
              omega
            refine ⟨ys ++ zs, ρ2, H2, o1.trans o2, ?_, ?_⟩
            · have e : cs.drop o = (cs.drop o).take (P.cellsOf f.type) ++ cs.drop (o + P.cellsOf f.type) := by rw [← List.drop_drop, List.take_append_drop]
              rw [e]
              refine .append (All2.imp (R := VL ρ1) (fun _ _ hv => hv.le o2.le) ?_) h6
              rw [hfo] at h4
              exact h4
            · intro g hg
              rcases List.mem_cons.1 hg with rfl | hg
              · refine ⟨by omega, ?_⟩
                rw [show g.offset - o = 0 by omega, List.drop_zero, List.take_append_of_le_length (by omega), List.take_of_length_le (by omega)]
                exact h5.keep o2.keep
              · obtain ⟨h8, h9⟩ := h7 g hg
                refine ⟨by omega, ?_⟩
                rw [show g.offset - o = ys.length + (g.offset - (o + P.cellsOf f.type)) by omega, List.drop_append, List.drop_of_length_le (by omega), List.nil_append, Nat.add_sub_cancel_left]
                exact h9
        obtain ⟨xs, ρ', H', o1, h1, h2⟩ := key fs.toList 0 ρ H (by rw [hcl]; exact hlaid) (by omega) (fun f hfm => by
          refine ⟨hall f hfm, ?_⟩
          obtain ⟨i, hi⟩ := List.getElem?_of_mem hfm
          have hi' : fs[i]? = some f := by simpa using hi
          have hil : i < xs0.length := by rw [hxl]; exact (Array.getElem?_eq_some_iff.1 hi').1
          exact ⟨xs0[i], by rw [hf i f hi']; exact List.getElem?_eq_getElem hil⟩) hR hV
        rw [List.drop_zero] at h1
        refine ⟨xs, ρ', H', o1, h1, ?_⟩
        unfold Good
        rw [hu]
        refine ⟨by rw [h1.length, hcl], fun f hfm => ?_⟩
        have := (h2 f hfm).2
        rw [Nat.sub_zero] at this
        exact this
      · cases hp
end
end Go.Proofs.Ytjjglonmaajjoaa.AX
namespace Go.Proofs.Ytjjglonmaajjoaa.AX
open Go Go.RowKit Go.WideShapes Go.ChangeShapes

/-- A value of type t, over a heap. -/
def GoodV (P : Program) (H : Heap) (t : TypeId) (a : Value) : Prop :=
  ∃ n, match P.underlying t with
    | some (.struct _) => ∃ ys : Array Value, a = .agg ys ∧ Good P H n t ys.toList
    | _ => Good P H n t [a]
theorem GoodV.keep {P : Program} {H H' : Heap} {t : TypeId} {a : Value} (h : GoodV P H t a) (k : Keep H H') : GoodV P H' t a := by
  obtain ⟨n, h⟩ := h
  refine ⟨n, ?_⟩
  split at h
  · obtain ⟨ys, h1, h2⟩ := h
    exact ⟨ys, h1, h2.keep k⟩
  · exact h.keep k
def GoodArgs (P : Program) (H : Heap) : List TypeId → List Value → Prop
  | [], [] => True
  | t :: ts, a :: xs => GoodV P H t a ∧ GoodArgs P H ts xs
  | _, _ => False
theorem okWide_float {P : Program} {w : World} {r : Reach} {base : Nat} {t : TypeId} {v : Value} {k : FloatKind} (ht : P.underlying t = some (.float k)) (h : Value.okWide P w r base t v) : ∃ b, v = .float k b := by
  simp only [Value.okWide, ht, Cell.okWide] at h
  cases v <;> simp_all [Cell.ok]
theorem cells_one {P : Program} {w : World} {r : Reach} {base : Nat} {t : TypeId} {v : Value} {m : Nat} (hp : plainT P m t = true) (hns : ∀ fs, P.underlying t ≠ some (.struct fs)) (h : Value.okWide P w r base t v) : v.cells.toList = [v] ∧ oneCell v = true := by
  cases m with
  | zero => cases hp
  | succ m =>
    unfold plainT at hp
    split at hp
    · rename_i hu; obtain ⟨b, rfl⟩ := okWide_bool hu h; exact ⟨rfl, rfl⟩
    · rename_i k hu; obtain ⟨b, rfl⟩ := okWide_int hu h; exact ⟨rfl, rfl⟩
    · rename_i k hu; obtain ⟨b, rfl⟩ := okWide_float hu h; exact ⟨rfl, rfl⟩
    · rename_i hu; obtain ⟨b, rfl⟩ := okWide_string hu h; exact ⟨rfl, rfl⟩
    · rename_i e hu; obtain ⟨a, l, c, rfl⟩ := okWide_slice hu h; exact ⟨rfl, rfl⟩
    · rename_i fs hu; exact absurd hu (hns fs)
    · cases hp
section
variable {A : Type} {enc : TypeId × Value → A} {P : Program} {w : World} {base : Nat} {spare : Nat → Bool} {held : Bool}
theorem args_over {b0 : Nat} : ∀ (ts : List TypeId) (vs : List Value) (ds : List (DataW A)) (p : List MemPlace) (ρ : Map) (H : Heap), (∀ t ∈ ts, plainT P 9 t = true) → DataW.TrodAll enc P w base spare held ts vs ds p →
    (∀ (j : Nat) (t : TypeId) (v : Value), ts[j]? = some t → vs[j]? = some v → Value.okWide P w .any b0 t v) → Rel ρ H w → Views H → ∃ xs ρ' H', Over w ρ H ρ' H' ∧ All2 (VR ρ') xs vs ∧ GoodArgs P H' ts xs
  | [], vs, ds, p, ρ, H, _, hA, _, hR, hV => by
    obtain ⟨rfl, _, _⟩ := trodAll_nil hA
    exact ⟨[], ρ, H, ⟨Map.le_refl _, hR, hV, Keep.refl _⟩, .nil, trivial⟩
  | t :: ts, vs, ds, p, ρ, H, hp, hA, hok, hR, hV => by
    obtain ⟨v, vs', d, ds', p1, q1, rfl, rfl, rfl, ⟨fuel, h1⟩, h2⟩ := trodAll_cons hA
    have hpt := hp t (by simp)
    have hv := hok 0 t v rfl rfl
    obtain ⟨xs, ρ1, H1, o1, h3, h4⟩ := over_of fuel 9 t _ _ ρ H hpt h1 hR hV
    have hone : ∃ a, VR ρ1 a v ∧ GoodV P H1 t a := by
      by_cases hs : ∃ fs, P.underlying t = some (.struct fs)
      · obtain ⟨fs, hs⟩ := hs
        have hv' := hv
        simp only [Value.okWide, hs] at hv'
        obtain ⟨cs, rfl, _, _⟩ := hv'
        refine ⟨.agg xs.toArray, .one (.agg (by simpa [Value.cells] using h3)), fuel, ?_⟩
        rw [hs]
        exact ⟨_, rfl, by simpa using h4⟩
      · have hns : ∀ fs, P.underlying t ≠ some (.struct fs) := fun fs e => hs ⟨fs, e⟩
        obtain ⟨hc, ho⟩ := cells_one hpt hns hv
        rw [hc] at h3
        cases h3 with
        | cons h5 h6 =>
          cases h6
          refine ⟨_, .one (.leaf h5), fuel, ?_⟩
          split
          · rename_i fs hu
            exact absurd hu (hns fs)
          · exact h4
    obtain ⟨a, h5, h6⟩ := hone
    obtain ⟨ys, ρ2, H2, o2, h7, h8⟩ := args_over ts vs' ds' q1 ρ1 H1 (fun t ht => hp t (by simp [ht])) h2 (fun j t v hj hv => hok (j + 1) t v (by simpa using hj) (by simpa using hv)) o1.rel o1.views
    exact ⟨a :: ys, ρ2, H2, o1.trans o2, .cons (h5.le o2.le) h7, h6.keep o2.keep, h8⟩
def H00 : Heap := ⟨fun _ => none, 0⟩
theorem rel00 (w : World) : Rel (fun _ => none) H00 w where
  view := fun _ _ h => by cases h
  own := fun _ _ h => by cases h
  apart := fun _ _ _ _ _ _ _ _ _ h => by cases h
  lt := fun _ _ h => by cases h
  fresh := fun _ _ h => by cases h
/-- A run over every heap of views that holds such arguments is a run over every world that holds them. -/
theorem calls_of_run (hmo : P.follows .mixedOrders = true) {f : FuncId} {ts : List TypeId} {args : Array Value} {ds : List (DataW A)} {p : List MemPlace} {b0 : Nat} (hp : ∀ t ∈ ts, plainT P 9 t = true) (hA : DataW.TrodAll enc P w base spare held ts args.toList ds p)
    (hok : ∀ (j : Nat) (t : TypeId) (v : Value), ts[j]? = some t → args.toList[j]? = some v → Value.okWide P w .any b0 t v) (hrun : ∀ H xs, GoodArgs P H ts xs → ∃ H', CR P f xs H (.bool true) H') :
    Calls P f args w fun e w' => e = .returned (.bool true) ∧ Below w.heap.size w w' := by
  obtain ⟨xs, ρ, H, o1, h1, h2⟩ := args_over ts args.toList ds p _ H00 hp hA hok (rel00 w) (fun _ _ h => by cases h)
  obtain ⟨H', hr⟩ := hrun H xs h2
  rcases cr_sound hmo f xs H _ H' hr with ⟨_, h3⟩ | ⟨⟨_, _, _, _, _, _, _, _, _, _, _, _, h3⟩, _⟩
  case inr => cases h3
  refine (h3 ρ w args o1.rel h1).mono ?_
  rintro e w' ⟨v', ρ', rfl, hv, hN⟩
  have hb := hv.bool
  subst hb
  refine ⟨rfl, hN.os, hN.tape, hN.output, hN.size, fun k hk => hN.frame k hk ?_⟩
  rintro ⟨i, cs, a, L, h3, _⟩
  obtain ⟨cs', h4⟩ := o1.views i _ h3
  cases h4
theorem trod_all_below {ts : List TypeId} {vs : List Value} {ds : List (DataW A)} {p : List MemPlace} {W W' : World} (hl : laidOutB P = true) (hr : ∀ t ∈ ts, P.readableRec t = true ∧ t < P.types.size) (h : DataW.TrodAll enc P W 0 (fun _ => true) true ts vs ds p) (hb : Below W.heap.size W W') :
    DataW.TrodAll enc P W' 0 (fun b => decide (b < W.heap.size)) true ts vs ds p := by
  induction ts generalizing vs ds p with
  | nil =>
    obtain ⟨rfl, rfl, rfl⟩ := trodAll_nil h
    exact rfl
  | cons t ts ih =>
    obtain ⟨v, vs', d, ds', p1, q1, rfl, rfl, rfl, h1, h2⟩ := trodAll_cons h
    have hlt : ∀ x ∈ p1, x.block < W.heap.size := by obtain ⟨m, hm⟩ := h1; exact DataW.trod_lt m _ _ _ hm
    exact trodAll_cons_mk (Below.trod hl (hr t (by simp)).1 (hr t (by simp)).2 h1 hb hlt) (ih (fun t ht => hr t (by simp [ht])) h2)
end
end Go.Proofs.Ytjjglonmaajjoaa.AX
