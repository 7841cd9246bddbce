/- The executor is sound: regions whose order is open, first part: the run in the text's order, and what any other order has done of it so far. No condition beyond each law's own; nothing of the program. -/
import Derived.Test.YtkadelndmaegdaaAXj
namespace Go.Proofs.Ytkadelndmaegdaa.AX
open Go

def Opv (C : CallRel) (T : Tm) (H : Heap) (op : XOp) (v : Value) (H' : Heap) : Prop := Op1 C T H op fun v0 H0 => v0 = v ∧ H0 = H'
theorem Op1.ex {C : CallRel} {T : Tm} {H : Heap} {op : XOp} {k : Value → Heap → Prop} (h : Op1 C T H op k) : ∃ v H', Opv C T H op v H' ∧ k v H' := by
  cases op <;> simp only [Opv, Op1] at h ⊢ <;> first
    | (obtain ⟨v, H', h1, h2⟩ := h; exact ⟨v, H', ⟨v, H', h1, rfl, rfl⟩, h2⟩)
    | (obtain ⟨f, cs, e, v, H', h1, h2⟩ := h; exact ⟨v, H', ⟨f, cs, e, v, H', h1, rfl, rfl⟩, h2⟩)
    | (split at h
       · exact ⟨_, _, ⟨rfl, rfl⟩, h⟩
       · exact h.elim)
theorem Opv.step {C : CallRel} {T : Tm} {H H' : Heap} {op : XOp} {v : Value} (h : Opv C T H op v H') (hc : ∀ f xs, op ≠ .call f xs) (hd : ∀ f xs, op ≠ .calld f xs) : step T H op = some (v, H') := by
  cases op <;> simp only [Opv, Op1] at h <;> first
    | exact absurd rfl (hc _ _)
    | exact absurd rfl (hd _ _)
    | (split at h
       · rename_i p hp
         obtain ⟨rfl, rfl⟩ := h
         rw [hp]
       · exact h.elim)
theorem dops_canon {C : CallRel} {pre : List (List Nat)} {Kx : Tm → Heap → Prop} : ∀ (os : List XO) (i : Nat) (tr : List Tr) (T : Tm) (H : Heap), Dops C pre i os tr Kx T H →
    ∃ (Ts : Nat → Tm) (Hs : Nat → Heap) (vs : Nat → Value) (tr' : List Tr), Ts 0 = T ∧ Hs 0 = H ∧
      (∀ (k : Nat) (xo : XO), os[k]? = some xo → (wanted (Ts k) xo.guard = true ∧ Opv C (Ts k) (Hs k) xo.op (vs k) (Hs (k + 1)) ∧ (∀ t ∈ trOf (i + k) (Ts k) (Hs k) (Hs (k + 1)) xo.op, t ∈ tr') ∨
          wanted (Ts k) xo.guard = false ∧ vs k = undef ∧ Hs (k + 1) = Hs k) ∧ Ts (k + 1) = put (Ts k) xo.dst (vs k)) ∧
      (∀ t ∈ tr, t ∈ tr') ∧ stable pre tr' ∧ Kx (Ts os.length) (Hs os.length)
  | [], i, tr, T, H, h => ⟨fun _ => T, fun _ => H, fun _ => undef, tr, rfl, rfl, fun k xo hk => by simp at hk, fun t ht => ht, h.1, h.2⟩
  | o :: os, i, tr, T, H, h => by
    simp only [Dops] at h
    split at h
    · rename_i hw
      obtain ⟨v, H', h1, h2⟩ := h.ex
      obtain ⟨Ts, Hs, vs, tr', e1, e2, h3, h4, h5, h6⟩ := dops_canon os (i + 1) _ _ _ h2
      refine ⟨fun k => match k with | 0 => T | k + 1 => Ts k, fun k => match k with | 0 => H | k + 1 => Hs k, fun k => match k with | 0 => v | k + 1 => vs k, tr', rfl, rfl, ?_, fun t ht => h4 t (List.mem_append_right _ ht), h5, h6⟩
      intro k xo hk
      cases k with
      | zero =>
        simp at hk
        subst hk
        refine ⟨.inl ⟨hw, by simpa [e2] using h1, fun t ht => h4 t (List.mem_append_left _ ?_)⟩, by simpa using e1⟩
        simpa [e2] using ht
      | succ k =>
        have hk' : os[k]? = some xo := by simpa using hk
        obtain ⟨h7, h8⟩ := h3 k xo hk'
        refine ⟨?_, h8⟩
        rcases h7 with ⟨h9, h10, h11⟩ | h7
        · exact .inl ⟨h9, h10, fun t ht => h11 t (by rw [show i + 1 + k = i + (k + 1) by omega]; exact ht)⟩
        · exact .inr h7
    · rename_i hw
      obtain ⟨Ts, Hs, vs, tr', e1, e2, h3, h4, h5, h6⟩ := dops_canon os (i + 1) _ _ _ h
      refine ⟨fun k => match k with | 0 => T | k + 1 => Ts k, fun k => match k with | 0 => H | k + 1 => Hs k, fun k => match k with | 0 => undef | k + 1 => vs k, tr', rfl, rfl, ?_, h4, h5, h6⟩
      intro k xo hk
      cases k with
      | zero =>
        simp at hk
        subst hk
        exact ⟨.inr ⟨by simpa using hw, rfl, e2⟩, by simpa using e1⟩
      | succ k =>
        have hk' : os[k]? = some xo := by simpa using hk
        obtain ⟨h7, h8⟩ := h3 k xo hk'
        refine ⟨?_, h8⟩
        rcases h7 with ⟨h9, h10, h11⟩ | h7
        · exact .inl ⟨h9, h10, fun t ht => h11 t (by rw [show i + 1 + k = i + (k + 1) by omega]; exact ht)⟩
        · exact .inr h7
theorem agreesAll_get {pre : List (List Nat)} {t : Tr} : ∀ {us : List Tr}, agreesAll pre t us → ∀ u ∈ us, agrees pre t u
  | [], _, u, hu => by cases hu
  | v :: us, h, u, hu => by
    rcases List.mem_cons.1 hu with rfl | hu
    · exact h.1
    · exact agreesAll_get h.2 u hu
theorem stable_get {pre : List (List Nat)} : ∀ {tr : List Tr}, stable pre tr → ∀ t ∈ tr, ∀ u ∈ tr, t = u ∨ agrees pre t u ∨ agrees pre u t
  | [], _, t, ht, _, _ => by cases ht
  | v :: tr, h, t, ht, u, hu => by
    rcases List.mem_cons.1 ht with e1 | ht1
    · rcases List.mem_cons.1 hu with e2 | hu1
      · exact .inl (e1.trans e2.symm)
      · exact .inr (.inl (e1 ▸ agreesAll_get h.1 u hu1))
    · rcases List.mem_cons.1 hu with e2 | hu1
      · exact .inr (.inr (e2 ▸ agreesAll_get h.1 t ht1))
      · exact stable_get h.2 t ht1 u hu1
/-- Object x is what the operation reads. -/
def Reads (T : Tm) (op : XOp) (x : Nat) : Prop := ∃ p o, (op = .load1 p ∨ ∃ m, op = .loadN m p) ∧ ev T p = .pointer (some ⟨x, o, none⟩) ∨ op = .b2s p ∧ ∃ n sz, ev T p = .slice (some ⟨x, o, none⟩) n sz
/-- The run in the text's order, and what is known of the region. -/
structure Can (P : Program) (C : CallRel) (n : Nat) (ops : Array Oper) (pre : List (List Nat)) (os : List XO) (Ts : Nat → Tm) (Hs : Nat → Heap) (vs : Nat → Value) : Prop where
  len : os.length = ops.size
  oper : ∀ (k : Nat) (xo : XO), os[k]? = some xo → ∃ o, ops[k]? = some o ∧ coper P n ops o = some xo
  step : ∀ (k : Nat) (xo : XO), os[k]? = some xo → wanted (Ts k) xo.guard = true ∧ Opv C (Ts k) (Hs k) xo.op (vs k) (Hs (k + 1)) ∨ wanted (Ts k) xo.guard = false ∧ vs k = undef ∧ Hs (k + 1) = Hs k
  next : ∀ (k : Nat) (xo : XO), os[k]? = some xo → Ts (k + 1) = put (Ts k) xo.dst (vs k)
  stE : ∀ (i j : Nat) (xo yo : XO) (x : Nat), os[i]? = some xo → os[j]? = some yo → wanted (Ts i) xo.guard = true → wanted (Ts j) yo.guard = true → Reads (Ts i) xo.op x → kindE yo.op = true → pre_ pre i j = true ∨ pre_ pre j i = true ∨ (Hs (j + 1)).get x = (Hs j).get x
  stA : ∀ (i j : Nat) (xo yo : XO) (x : Nat), os[i]? = some xo → os[j]? = some yo → wanted (Ts i) xo.guard = true → wanted (Ts j) yo.guard = true → Reads (Ts i) xo.op x → kindA yo.op = true → pre_ pre i j = true ∨ pre_ pre j i = true ∨ x ≠ (Hs j).nxt
  d1 : ∀ (i : Nat) (o : Oper), ops[i]? = some o → ∀ d ∈ directs o, d < i ∧ pre_ pre i d = true
  d2 : ∀ (i j : Nat), i < os.length → pre_ pre i j = true → ∃ o, ops[i]? = some o ∧ ∃ d ∈ directs o, d = j ∨ pre_ pre d j = true
  d3 : ∀ (i j : Nat) (xo yo : XO) (d : Nat), os[i]? = some xo → os[j]? = some yo → i ≠ j → xo.dst = some d → (d ∈ looksO yo ∨ yo.dst = some d) → pre_ pre i j = true ∨ pre_ pre j i = true
  d4 : ∀ (i j : Nat) (xo yo : XO), os[i]? = some xo → os[j]? = some yo → j < i → kindE xo.op = true → (kindE yo.op = true ∨ kindA yo.op = true) → pre_ pre i j = true
theorem trOf_reads {i : Nat} {T : Tm} {H H' : Heap} {op : XOp} {x : Nat} (h : Reads T op x) : Tr.L i x ∈ trOf i T H H' op := by
  obtain ⟨p, o, ⟨h1, h2⟩ | ⟨rfl, n, sz, h2⟩⟩ := h
  · rcases h1 with rfl | ⟨m, rfl⟩ <;> simp [trOf, h2]
  · simp [trOf, h2]
theorem trOf_E {i : Nat} {T : Tm} {H H' : Heap} {op : XOp} (h : kindE op = true) : Tr.E i H H' ∈ trOf i T H H' op := by
  cases op <;> simp [kindE] at h <;> simp [trOf]
theorem trOf_A {i : Nat} {T : Tm} {H H' : Heap} {op : XOp} (h : kindA op = true) : Tr.A i H.nxt ∈ trOf i T H H' op := by
  cases op <;> simp [kindA] at h <;> simp [trOf]
theorem mapM_get {α β : Type} {f : α → Option β} : ∀ {l : List α} {r : List β}, l.mapM f = some r → l.length = r.length ∧ ∀ (k : Nat) (b : β), r[k]? = some b → ∃ a, l[k]? = some a ∧ f a = some b
  | [], r, h => by simp at h; subst h; exact ⟨rfl, fun k b hk => by simp at hk⟩
  | a :: l, r, h => by
    simp only [List.mapM_cons, Option.bind_eq_bind, Option.bind_eq_some_iff, Option.pure_def, Option.some.injEq] at h
    obtain ⟨b, hb, r', hr, rfl⟩ := h
    obtain ⟨h1, h2⟩ := mapM_get hr
    refine ⟨by simp [h1], fun k c hk => ?_⟩
    cases k with
    | zero => simp at hk; subst hk; exact ⟨a, by simp, hb⟩
    | succ k => simp at hk; obtain ⟨a', h3, h4⟩ := h2 k c hk; exact ⟨a', by simpa using h3, h4⟩
/-- What is asked of a region, as laws. -/
theorem dregOk_laws {ops : Array Oper} {pre : List (List Nat)} {os : List XO} (h : dregOk ops pre os = true) :
    (∀ (i : Nat) (o : Oper), ops[i]? = some o → ∀ d ∈ directs o, d < i ∧ pre_ pre i d = true) ∧
    (∀ (i j : Nat), i < os.length → pre_ pre i j = true → ∃ o, ops[i]? = some o ∧ ∃ d ∈ directs o, d = j ∨ pre_ pre d j = true) ∧
    (∀ (i j : Nat) (xo yo : XO) (d : Nat), os[i]? = some xo → os[j]? = some yo → i ≠ j → xo.dst = some d → (d ∈ looksO yo ∨ yo.dst = some d) → pre_ pre i j = true ∨ pre_ pre j i = true) ∧
    (∀ (i j : Nat) (xo yo : XO), os[i]? = some xo → os[j]? = some yo → j < i → kindE xo.op = true → (kindE yo.op = true ∨ kindA yo.op = true) → pre_ pre i j = true) := by
  simp only [dregOk, Bool.and_eq_true, List.all_eq_true, List.mem_range, beq_iff_eq] at h
  obtain ⟨⟨⟨⟨hsz, _⟩, h1⟩, h2⟩, h3⟩ := h
  refine ⟨?_, ?_, ?_, ?_⟩
  · intro i o ho d hd
    have hi : i < os.length := by rw [← hsz]; exact (Array.getElem?_eq_some_iff.1 ho).1
    have := h1 i hi
    rw [ho] at this
    simp only [Bool.and_eq_true, List.all_eq_true, decide_eq_true_eq] at this
    exact this.1 d hd
  · intro i j hi hp
    have := h1 i hi
    cases ho : ops[i]? with
    | none => rw [ho] at this; simp at this
    | some o =>
      rw [ho] at this
      simp only [Bool.and_eq_true, List.all_eq_true, List.any_eq_true, Bool.or_eq_true, beq_iff_eq] at this
      have hj : j ∈ pre.getD i [] := by
        simp only [pre_, List.contains_iff_mem] at hp
        exact hp
      obtain ⟨d, hd, hdj⟩ := this.2 j hj
      exact ⟨o, rfl, d, hd, hdj⟩
  · intro i j xo yo d hi hj hij hd hor
    have hil := (List.getElem?_eq_some_iff.1 hi).1
    have hjl := (List.getElem?_eq_some_iff.1 hj).1
    have := h2 i hil j hjl
    rw [hi, hj] at this
    simp only [Bool.or_eq_true, beq_iff_eq, hd] at this
    rcases this with ((h4 | h4) | h4) | h4
    · exact absurd h4 hij
    · exact .inl h4
    · exact .inr h4
    · exfalso
      simp only [Bool.and_eq_true, Bool.not_eq_true', bne_iff_ne, ne_eq] at h4
      rcases hor with h5 | h5
      · have : (looksO yo).contains d = true := by simpa using h5
        rw [this] at h4
        cases h4.1
      · exact h4.2 h5
  · intro i j xo yo hi hj hji hE hor
    have hil := (List.getElem?_eq_some_iff.1 hi).1
    have := h3 i hil
    rw [hi] at this
    simp only [Bool.or_eq_true, Bool.not_eq_true', List.all_eq_true, List.mem_range, hE] at this
    rcases this with h4 | h4
    · cases h4
    · have h5 := h4 j hji
      rw [hj] at h5
      simp only [Bool.or_eq_true, Bool.not_eq_true', Bool.or_eq_false_iff] at h5
      rcases h5 with h5 | h5
      · rcases hor with h6 | h6
        · rw [h6] at h5; cases h5.1
        · rw [h6] at h5; cases h5.2
      · exact h5
theorem can_of {P : Program} {C : CallRel} {n : Nat} {ops : Array Oper} {pre : List (List Nat)} {os : List XO} (hos : cops P n ops = some os) (hd : dregOk ops pre os = true) {Kx : Tm → Heap → Prop} {T : Tm} {H : Heap} (h : Dops C pre 0 os [] Kx T H) :
    ∃ Ts Hs vs, Can P C n ops pre os Ts Hs vs ∧ Ts 0 = T ∧ Hs 0 = H ∧ Kx (Ts os.length) (Hs os.length) := by
  obtain ⟨Ts, Hs, vs, tr, e1, e2, h3, _, h5, h6⟩ := dops_canon os 0 [] T H h
  obtain ⟨hl, hg⟩ := mapM_get hos
  obtain ⟨d1, d2, d3, d4⟩ := dregOk_laws hd
  refine ⟨Ts, Hs, vs, ⟨by simpa using hl.symm, ?_, ?_, fun k xo hk => (h3 k xo hk).2, ?_, ?_, d1, d2, d3, d4⟩, e1, e2, h6⟩
  · intro k xo hk
    obtain ⟨o, h7, h8⟩ := hg k xo hk
    exact ⟨o, by simpa using h7, h8⟩
  · intro k xo hk
    rcases (h3 k xo hk).1 with ⟨h7, h8, _⟩ | h7
    · exact .inl ⟨h7, h8⟩
    · exact .inr h7
  · intro i j xo yo x hi hj hwi hwj hr hE
    have ti : Tr.L i x ∈ tr := by
      rcases (h3 i xo hi).1 with ⟨_, _, h7⟩ | ⟨h7, _⟩
      · exact h7 _ (by simpa using trOf_reads (i := i) hr)
      · rw [hwi] at h7; cases h7
    have tj : Tr.E j (Hs j) (Hs (j + 1)) ∈ tr := by
      rcases (h3 j yo hj).1 with ⟨_, _, h7⟩ | ⟨h7, _⟩
      · exact h7 _ (by simpa using trOf_E (i := j) hE)
      · rw [hwj] at h7; cases h7
    have : Zio pre i x j (Hs j) (Hs (j + 1)) := by
      rcases stable_get h5 _ ti _ tj with h7 | h7 | h7
      · cases h7
      · exact h7
      · exact h7
    unfold Zio at this
    split at this
    · rename_i h8
      simp only [Bool.or_eq_true] at h8
      rcases h8 with h8 | h8
      · exact .inl h8
      · exact .inr (.inl h8)
    · exact .inr (.inr this)
  · intro i j xo yo x hi hj hwi hwj hr hA
    have ti : Tr.L i x ∈ tr := by
      rcases (h3 i xo hi).1 with ⟨_, _, h7⟩ | ⟨h7, _⟩
      · exact h7 _ (by simpa using trOf_reads (i := i) hr)
      · rw [hwi] at h7; cases h7
    have tj : Tr.A j (Hs j).nxt ∈ tr := by
      rcases (h3 j yo hj).1 with ⟨_, _, h7⟩ | ⟨h7, _⟩
      · exact h7 _ (by simpa using trOf_A (i := j) hA)
      · rw [hwj] at h7; cases h7
    have : Zip pre i x j (Hs j).nxt := by
      rcases stable_get h5 _ ti _ tj with h7 | h7 | h7
      · cases h7
      · exact h7
      · exact h7
    unfold Zip at this
    split at this
    · rename_i h8
      simp only [Bool.or_eq_true] at h8
      rcases h8 with h8 | h8
      · exact .inl h8
      · exact .inr (.inl h8)
    · exact .inr (.inr this)
/-! ### What an operation does to the heap, by its kind -/
theorem step_kind {T : Tm} {H H' : Heap} {op : XOp} {v : Value} (h : step T H op = some (v, H')) (hE : kindE op = false) : (kindA op = true → ∃ cs, H' = H.push cs) ∧ (kindA op = false → H' = H) := by
  cases op <;> simp only [kindE, reduceCtorEq] at hE <;> refine ⟨fun hA => ?_, fun hA => ?_⟩ <;> simp only [kindA, reduceCtorEq] at hA <;> simp only [step] at h
  all_goals (repeat' (split at h))
  all_goals first
    | (cases h; done)
    | (simp only [Option.some.injEq, Prod.mk.injEq] at h; exact h.2.symm)
    | (simp only [Option.some.injEq, Prod.mk.injEq] at h; exact ⟨_, h.2.symm⟩)
    | (simp only [Option.map_eq_some_iff, Prod.mk.injEq] at h; obtain ⟨_, _, _, h⟩ := h; exact h.symm)
    | (simp only [Option.map_eq_some_iff, Prod.mk.injEq] at h; obtain ⟨_, _, _, h⟩ := h; exact ⟨_, h.symm⟩)
end Go.Proofs.Ytkadelndmaegdaa.AX
