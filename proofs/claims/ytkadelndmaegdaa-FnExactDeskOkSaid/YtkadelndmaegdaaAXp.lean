/- The executor is sound: a region whose order is open, whole. No condition beyond each law's own; nothing of the program. -/
import Derived.Test.YtkadelndmaegdaaAXo
namespace Go.Proofs.Ytkadelndmaegdaa.AX
open Go

section
variable {P : Program} {C : CallRel} {n : Nat} {ops : Array Oper} {pre : List (List Nat)} {os : List XO} {Ts : Nat → Tm} {Hs : Nat → Heap} {vs : Nat → Value} {S : Nat → Bool} {i : Nat} {xo : XO} {Q : Exit → Act → World → Prop} {ρ0 : Map} {w0 : World}
theorem looked (hcan : Can P C n ops pre os Ts Hs vs) (hn : Now pre os.length S i) (hxo : os[i]? = some xo) : ∀ t ∈ looksO xo, tk os vs (Ts 0) S os.length t = Ts i t := by
  intro t ht
  have := tk_eq hcan hn hxo ht os.length (Nat.le_refl _)
  rwa [Nat.min_eq_right (Nat.le_of_lt hn.lt)] at this
theorem carg_bel {x : Operand} {y : XArg} {T : Tm} {H : Heap} (h : carg n x = some y) (hw : Wf n T H) : vBel H.nxt (ev T y) := by
  cases x with
  | tmp t =>
    simp only [carg] at h
    split at h
    · rename_i ht
      injection h with h; subst h
      exact hw.slots t ht
    · cases h
  | const v =>
    simp only [carg] at h
    split at h
    · rename_i hf
      injection h with h; subst h
      exact (VR.one (ρ := fun _ => none) (.leaf (.flat hf))).bel (fun _ _ e => by cases e)
    · cases h
  | global g => cases h
  | func f =>
    injection h with h; subst h
    exact (VR.one (ρ := fun _ => none) (a := .func (.func f) #[] #[]) (.leaf (.flat rfl))).bel (fun _ _ e => by cases e)
theorem gk_quiet (hcan : Can P C n ops pre os Ts Hs vs) (hm : ∀ k, k < os.length → (Hs k).nxt ≤ (Hs (k + 1)).nxt) (hwf : ∀ k, k ≤ os.length → Wf n (Ts k) (Hs k)) (hn : Now pre os.length S i) (hxo : os[i]? = some xo) (hh : Hs (i + 1) = Hs i) :
    gk os Hs (with_ S i) os.length = gk os Hs S os.length := by
  funext x
  cases hE : kindE xo.op with
  | true =>
    rw [gk_E3 hcan hm (fun k hk x ob h => ((hwf k hk).heap x ob h).1) hn hxo hE x]
    split
    · rename_i hx
      rw [hh] at hx ⊢
      exact (gk_E2 hcan hm hn hxo hE hx).symm
    · rfl
  | false => rw [gk_N hcan hm hn hxo hE x, if_neg (by rw [hh]; omega)]
theorem st_step (hC : CallSound P C) (hcan : Can P C n ops pre os Ts Hs vs) (hm : ∀ k, k < os.length → (Hs k).nxt ≤ (Hs (k + 1)).nxt) (hwf : ∀ k, k ≤ os.length → Wf n (Ts k) (Hs k)) (hn : Now pre os.length S i)
    {a : Act} {w : World} {ρ : Map} (hst : St n os Ts Hs vs ρ0 w0 S a w ρ) {K : Act → World → Prop} (hK : ∀ a' w' ρ', St n os Ts Hs vs ρ0 w0 (with_ S i) a' w' ρ' → K a' w') : wpOp P ops Q i K a w := by
  have hlt := hn.lt
  obtain ⟨xo, hxo⟩ := os_get (os := os) hlt
  obtain ⟨o, ho, hco⟩ := hcan.oper i xo hxo
  obtain ⟨hd, hop, hg, _⟩ := coper_parts hco
  have hl := looked hcan hn hxo
  have hl' : ∀ t ∈ looks xo.op, tk os vs (Ts 0) S os.length t = Ts i t := fun t ht => hl t (List.mem_append_left _ ht)
  have hw := wanted_eq (ops := ops) hst.slots hg
  rw [wanted_congr hl] at hw
  unfold wpOp
  simp only [ho]
  rcases hcan.step i xo hxo with ⟨hwt, hv⟩ | ⟨hwt, hv, hh⟩
  · rw [hw, hwt, if_pos rfl]
    refine .inl ?_
    cases hE : kindE xo.op with
    | true =>
      obtain ⟨hR, hmerge⟩ := merge hcan hm hwf hn hxo hE hst
      refine eff_sound (T := Ts i) (H := Hs i) (ρ := cut ρ (Hs i).nxt) (v := vs i) (H' := Hs (i + 1)) hC hop hE ?_ hR hv (fun v' w' ρ' hv' hN => ?_)
      · intro x y hxy hlook
        have h1 := ev_sound hxy hst.slots
        rw [ev_congr (fun t ht => hl' t (hlook t ht))] at h1
        exact h1.cut_ (carg_bel hxy (hwf i (by omega)))
      · obtain ⟨ρ2, h1, h2, h3, h4⟩ := hmerge ρ' w' hN
        refine hK _ _ ρ2 ⟨hst.nx.trans h3, ?_, ?_⟩
        · rw [tk_put hcan hn hxo, hd]
          exact (hst.slots.le h1).putO (hv'.le h2)
        · intro x y hxy
          rcases h4 x y hxy with h5 | h5
          · rcases hst.dom x y h5 with h6 | ⟨k, h6, h7, h8⟩
            · exact .inl h6
            · exact .inr ⟨k, h6, with_mono h7, h8⟩
          · exact .inr ⟨i, hlt, with_self, h5⟩
    | false =>
      have hs := hv.step (fun f xs e => by rw [e] at hE; cases hE) (fun f xs e => by rw [e] at hE; cases hE)
      rw [← step_congr (T' := tk os vs (Ts 0) S os.length) hl'] at hs
      cases hA : kindA xo.op with
      | true =>
        obtain ⟨cs, arr, e, vf, h1, h2, h3, h4, h5⟩ := push_run (w := w) hop hA hst.slots hs
        have hno : ρ (Hs i).nxt = none := by
          cases hx : ρ (Hs i).nxt with
          | none => rfl
          | some y =>
            exfalso
            rcases hst.dom _ y hx with ⟨h6, _⟩ | ⟨k, h6, h7, h8, h9⟩
            · have := nxt_mono hm (show 0 ≤ i by omega) (by omega)
              omega
            · have : k = i := ranges (hm := hm) h6 hlt h8 h9 (Nat.le_refl _) (by rw [h1]; exact Nat.lt_succ_self _)
              rw [this, hn.not] at h7
              cases h7
        have hG : gk os Hs S os.length (Hs i).nxt = none := by
          cases hx : gk os Hs S os.length (Hs i).nxt with
          | none => rfl
          | some ob =>
            exfalso
            cases ob with
            | view cs =>
              obtain ⟨b, L, h6, _⟩ := hst.nx.rel.view _ cs hx
              rw [hno] at h6; cases h6
            | own cs =>
              obtain ⟨g, off, L, h6, _⟩ := hst.nx.rel.own _ cs hx
              rw [hno] at h6; cases h6
        have hN : (Hs i).nxt < (Hs os.length).nxt := by
          have h6 := nxt_mono hm (show i + 1 ≤ os.length by omega) (Nat.le_refl _)
          rw [h1] at h6
          exact h6
        have hnx := nx_put hst.nx.rel hN hG hno cs arr e h2 h3
        have hfn : gk os Hs (with_ S i) os.length = fun x => if x = (Hs i).nxt then some (.own cs) else gk os Hs S os.length x := by
          funext x
          rw [gk_N hcan hm hn hxo hE x, h1]
          simp only [Heap.push]
          by_cases hx : x = (Hs i).nxt
          · subst hx
            simp
          · simp only [if_neg hx]
            rw [if_neg (by omega)]
        rw [← hfn] at hnx
        refine wp_of_run h4 (hK _ _ (ρ.at_ (Hs i).nxt (⟨w.heap.size, 0, none⟩, arr.size)) ⟨?_, ?_, ?_⟩)
        · exact hst.nx.trans hnx
        · rw [tk_put hcan hn hxo, hd]
          exact (hst.slots.le hnx.le).putO (h5 _ _ (Map.at_self _ _ _))
        · intro x y hxy
          by_cases hx : x = (Hs i).nxt
          · subst hx
            exact .inr ⟨i, hlt, with_self, Nat.le_refl _, by rw [h1]; exact Nat.lt_succ_self _⟩
          · have h6 : ρ x = some y := by simpa [Map.at_, hx] using hxy
            rcases hst.dom x y h6 with h6 | ⟨k, h6, h7, h8⟩
            · exact .inl h6
            · exact .inr ⟨k, h6, with_mono h7, h8⟩
      | false =>
        have hh := (step_kind hs hE).2 hA
        have hs2 := step_frame (H2 := ⟨gk os Hs S os.length, (Hs os.length).nxt⟩) hs hE hA (by
          rintro x ⟨p, off, ⟨h1, h2⟩ | ⟨h1, nn, sz, h2⟩⟩
          · refine gk_L hcan hn hxo hwt ⟨p, off, .inl ⟨h1, ?_⟩⟩
            rw [← h2]
            refine (ev_congr (fun t ht => hl' t ?_)).symm
            rcases h1 with h1 | ⟨m, h1⟩ <;> rw [h1] <;> exact ht
          · refine gk_L hcan hn hxo hwt ⟨p, off, .inr ⟨h1, nn, sz, ?_⟩⟩
            rw [← h2]
            refine (ev_congr (fun t ht => hl' t ?_)).symm
            rw [h1]
            exact ht)
        refine op_sound hop hst.slots hst.nx.rel hs2 (fun v' w' ρ' hv' hN => hK _ _ ρ' ⟨?_, ?_, ?_⟩)
        · rw [gk_quiet hcan hm hwf hn hxo hh]
          exact hst.nx.trans hN.nx
        · rw [tk_put hcan hn hxo, hd]
          exact (hst.slots.le hN.le).putO hv'
        · intro x y hxy
          have h6 := hN.old x y (hN.rel.fresh x y hxy) hxy
          rcases hst.dom x y h6 with h6 | ⟨k, h6, h7, h8⟩
          · exact .inl h6
          · exact .inr ⟨k, h6, with_mono h7, h8⟩
  · rw [hw, hwt, if_neg (by simp)]
    refine hK _ _ ρ ⟨?_, ?_, ?_⟩
    · rw [gk_quiet hcan hm hwf hn hxo hh]
      exact hst.nx
    · rw [tk_put hcan hn hxo, hd, hv]
      exact hst.slots.putO (VR.undef_ _)
    · intro x y hxy
      rcases hst.dom x y hxy with h6 | ⟨k, h6, h7, h8⟩
      · exact .inl h6
      · exact .inr ⟨k, h6, with_mono h7, h8⟩
/-! ### The whole region -/
def left (S : Nat → Bool) : Nat → Nat
  | 0 => 0
  | m + 1 => left S m + if S m = true then 0 else 1
theorem left_zero : ∀ {m : Nat}, left S m = 0 → ∀ k, k < m → S k = true
  | 0, _, k, hk => by omega
  | m + 1, h, k, hk => by
    simp only [left] at h
    by_cases hS : S m = true
    · rw [if_pos hS] at h
      by_cases e : k = m
      · rw [e]; exact hS
      · exact left_zero (by omega) k (by omega)
    · rw [if_neg hS] at h; omega
theorem left_same : ∀ {m : Nat}, m ≤ i → left (with_ S i) m = left S m
  | 0, _ => rfl
  | m + 1, h => by
    have h1 := left_same (m := m) (show m ≤ i by omega)
    simp only [left, h1, with_ne (S := S) (i := i) (show m ≠ i by omega)]
theorem left_with (hS : S i = false) : ∀ {m : Nat}, i < m → left (with_ S i) m + 1 = left S m
  | 0, h => by omega
  | m + 1, h => by
    simp only [left]
    by_cases e : m = i
    · subst e
      rw [left_same (Nat.le_refl _), with_self, if_pos rfl, if_neg (by rw [hS]; simp)]
    · have := left_with hS (m := m) (by omega)
      rw [with_ne e]
      omega
def ofL (l : Array Bool) : Nat → Bool := fun k => l.getD k false
theorem ofL_set {l : Array Bool} (h : i < l.size) : ofL (l.setIfInBounds i true) = with_ (ofL l) i := by
  funext k
  simp only [ofL, with_, Array.getD_eq_getD_getElem?, Array.getElem?_setIfInBounds]
  by_cases hk : k = i
  · subst hk; simp [h]
  · rw [if_neg (fun e => hk e.symm), if_neg hk]
theorem directs_mem {o : Oper} {d : Nat} (h : d ∈ directs o) : ∃ e ∈ o.after.toList, Region.binds .any e = true ∧ e.on = d := by
  simp only [directs, List.mem_filterMap] at h
  obtain ⟨e, h1, h2⟩ := h
  split at h2
  · rename_i hb
    injection h2 with h2
    exact ⟨e, h1, hb, h2⟩
  · cases h2
theorem ready_mem {l : Array Bool} (h : i ∈ Region.ready .any ops l) : i < ops.size ∧ l.getD i true = false ∧ ∃ o, ops[i]? = some o ∧ ∀ e ∈ o.after.toList, Region.binds .any e = true → l.getD e.on false = true := by
  simp only [Region.ready, List.mem_filter, List.mem_range, Bool.and_eq_true, Bool.not_eq_true'] at h
  obtain ⟨h1, h2, h3⟩ := h
  refine ⟨h1, h2, ops[i], by simp [h1], fun e he hb => ?_⟩
  have h4 : ops[i]? = some ops[i] := by simp [h1]
  rw [h4] at h3
  simp only [Option.map_some, Option.getD_some, Array.all_eq_true', Bool.or_eq_true, Bool.not_eq_true'] at h3
  rcases h3 e (by simpa using he) with h5 | h5
  · rw [hb] at h5; cases h5
  · exact h5
theorem ready_of {l : Array Bool} {o : Oper} (h1 : i < ops.size) (h2 : l.getD i true = false) (h3 : ops[i]? = some o) (h4 : ∀ e ∈ o.after.toList, Region.binds .any e = true → l.getD e.on false = true) : i ∈ Region.ready .any ops l := by
  simp only [Region.ready, List.mem_filter, List.mem_range, Bool.and_eq_true, Bool.not_eq_true']
  refine ⟨h1, h2, ?_⟩
  rw [h3]
  simp only [Option.map_some, Option.getD_some, Array.all_eq_true', Bool.or_eq_true, Bool.not_eq_true']
  intro e he
  cases hb : Region.binds .any e with
  | false => exact .inl rfl
  | true => exact .inr (h4 e (by simpa using he) hb)
theorem ofL_in {l : Array Bool} (h : i < l.size) : l.getD i true = ofL l i := by
  unfold ofL
  rw [Array.getD_eq_getD_getElem?, Array.getD_eq_getD_getElem?]
  simp [h]
theorem now_of (hcan : Can P C n ops pre os Ts Hs vs) {l : Array Bool} (hs : l.size = ops.size) (hcl : Closed pre os.length (ofL l)) (h : i ∈ Region.ready .any ops l) : Now pre os.length (ofL l) i := by
  obtain ⟨h1, h2, o, h3, h4⟩ := ready_mem h
  have hi : i < os.length := by rw [hcan.len]; exact h1
  refine ⟨hi, by rw [← ofL_in (by omega)]; exact h2, hcl, fun j hj => ?_⟩
  obtain ⟨o', ho', d, hd, h5⟩ := hcan.d2 i j hi hj
  rw [h3] at ho'; injection ho' with ho'; subst ho'
  have hdi := (hcan.d1 i o h3 d hd).1
  obtain ⟨e, he, hb, rfl⟩ := directs_mem hd
  have h6 : ofL l e.on = true := h4 e he hb
  rcases h5 with h5 | h5
  · rw [← h5]; exact h6
  · exact hcl e.on (by omega) h6 j h5
theorem closed_with (hn : Now pre os.length S i) : Closed pre os.length (with_ S i) := by
  intro k hk hS j hj
  by_cases e : k = i
  · subst e; exact with_mono (hn.ahead j hj)
  · rw [with_ne e] at hS
    exact with_mono (hn.closed k hk hS j hj)
theorem none_ready (hcan : Can P C n ops pre os Ts Hs vs) {l : Array Bool} (hs : l.size = ops.size) (h : Region.ready .any ops l = []) : ∀ k, k < os.length → ofL l k = true := by
  intro k
  induction k using Nat.strongRecOn with
  | _ k ih =>
    intro hk
    cases hS : ofL l k with
    | true => rfl
    | false =>
      exfalso
      have hk' : k < ops.size := by rw [← hcan.len]; exact hk
      have hko : ops[k]? = some ops[k] := by simp [hk']
      have : k ∈ Region.ready .any ops l := ready_of hk' (by rw [ofL_in (by omega)]; exact hS) hko (fun e he hb => by
        have hd : e.on ∈ directs ops[k] := by
          simp only [directs, List.mem_filterMap]
          exact ⟨e, he, by rw [if_pos hb]⟩
        have := (hcan.d1 k _ hko e.on hd).1
        exact ih e.on this (by omega))
      rw [h] at this
      cases this
theorem any_of (hC : CallSound P C) (hcan : Can P C n ops pre os Ts Hs vs) (hm : ∀ k, k < os.length → (Hs k).nxt ≤ (Hs (k + 1)).nxt) (hwf : ∀ k, k ≤ os.length → Wf n (Ts k) (Hs k))
    (hQ : ∀ a w ρ S, (∀ k, k < os.length → S k = true) → St n os Ts Hs vs ρ0 w0 S a w ρ → Q .normal a w) : ∀ (fuel : Nat) (l : Array Bool) (a : Act) (w : World) (ρ : Map), l.size = ops.size → Closed pre os.length (ofL l) → left (ofL l) os.length ≤ fuel →
      St n os Ts Hs vs ρ0 w0 (ofL l) a w ρ → wpAny P .any ops Q fuel l a w := by
  intro fuel
  induction fuel with
  | zero =>
    intro l a w ρ hs hcl hle hst
    have hall := left_zero (S := ofL l) (m := os.length) (by omega)
    refine ⟨?_, hQ a w ρ _ hall hst⟩
    cases hr : Region.ready .any ops l with
    | nil => rfl
    | cons i rest =>
      have hn := now_of hcan hs hcl (i := i) (by rw [hr]; simp)
      have := hall i hn.lt
      rw [hn.not] at this
      cases this
  | succ fuel ih =>
    intro l a w ρ hs hcl hle hst
    refine ⟨fun hr => hQ a w ρ _ (none_ready hcan hs hr) hst, fun i hi => ?_⟩
    have hn := now_of hcan hs hcl hi
    have hil : i < l.size := by rw [hs, ← hcan.len]; exact hn.lt
    refine st_step hC hcan hm hwf hn hst (fun a' w' ρ' hst' => ih _ a' w' ρ' (by simpa using hs) ?_ ?_ ?_)
    · rw [ofL_set hil]; exact closed_with hn
    · rw [ofL_set hil]
      have := left_with hn.not hn.lt
      omega
    · rw [ofL_set hil]; exact hst'
theorem ofL_none {m : Nat} : ofL (Array.replicate m false) = fun _ => false := by
  funext k
  unfold ofL
  rw [Array.getD_eq_getD_getElem?, Array.getElem?_replicate]
  split <;> rfl
theorem left_none : ∀ m, left (fun _ => false) m = m
  | 0 => rfl
  | m + 1 => by simp [left, left_none m]
theorem tk_none (T : Tm) : ∀ k, tk os vs T (fun _ => false) k = T
  | 0 => rfl
  | k + 1 => by rw [tk_succ_false rfl]; exact tk_none T k
theorem gk_none : ∀ k, gk os Hs (fun _ => false) k = (Hs 0).get
  | 0 => rfl
  | k + 1 => by funext x; rw [gk_false rfl, gk_none k]
/-- A region whose order is open. -/
theorem dreg_sound (hmo : P.follows .mixedOrders = true) (hC : CallSound P C) {id : Nat} {a : Act} {w : World} {ρ : Map} {T : Tm} {H : Heap} {Kx : Tm → Heap → Prop} (hos : cops P n ops = some os) (hd : dregOk ops pre os = true)
    (hT : TRel ρ n T a) (hR : Rel ρ H w) (h : Dops C pre 0 os [] Kx T H) (hQ : ∀ T' H' ρ' a' w', Kx T' H' → TRel ρ' n T' a' → Next ρ H w ρ' H' w' → Q .normal a' w') : (Code.region id ops true).wp P Q a w := by
  obtain ⟨Ts, Hs, vs, hcan, e1, e2, hK⟩ := can_of hos hd h
  subst e1
  subst e2
  have hR0 : Rel ρ (Hs 0) { w with drawn := w.drawn + 1 } := hR.drawn rfl
  obtain ⟨hall, hm⟩ := canon_wf hC hcan hR0 hT
  have hwf : ∀ k, k ≤ os.length → Wf n (Ts k) (Hs k) := fun k hk => by
    obtain ⟨ρ', a', w', h1, h2⟩ := hall k hk
    exact wf_of h1 h2
  refine wp_region_any hmo (any_of (ρ0 := ρ) (w0 := { w with drawn := w.drawn + 1 }) hC hcan hm hwf ?_ ops.size _ a _ ρ (by simp) ?_ ?_ ?_)
  · intro a' w' ρ' S hS hst
    have h1 : gk os Hs S os.length = (Hs os.length).get := funext fun x => gk_all hcan hS os.length (Nat.le_refl _) x
    have h2 := hst.nx
    rw [h1] at h2
    have h3 := hst.slots
    rw [tk_all hcan hS os.length (Nat.le_refl _)] at h3
    refine hQ _ _ ρ' a' w' hK h3 ((Next.drawn (w' := { w with drawn := w.drawn + 1 }) hR rfl rfl rfl rfl).trans ⟨h2.le, h2.rel, h2.os, h2.tape, h2.output, h2.size, nxt_mono hm (Nat.zero_le _) (Nat.le_refl _), h2.frame, h2.from_, h2.views, ?_⟩)
    intro x y hx hxy
    rcases hst.dom x y hxy with h4 | ⟨k, h4, h5, h6, h7⟩
    · exact h4.2
    · have := nxt_mono hm (show 0 ≤ k by omega) (by omega)
      omega
  · rw [ofL_none]; intro i hi hS; cases hS
  · rw [ofL_none, left_none, hcan.len]; exact Nat.le_refl _
  · rw [ofL_none]
    have hle := nxt_mono hm (Nat.zero_le _) (Nat.le_refl os.length)
    refine ⟨⟨Map.le_refl _, ?_, rfl, rfl, rfl, Nat.le_refl _, fun _ _ _ => rfl, ?_, ?_⟩, ?_, ?_⟩
    · rw [gk_none]
      exact ⟨hR0.view, hR0.own, hR0.apart, fun x ob hx => Nat.lt_of_lt_of_le (hR0.lt x ob hx) hle, fun x y hx => Nat.lt_of_lt_of_le (hR0.fresh x y hx) hle⟩
    · rw [gk_none]
      exact fun b hb => .inr hb
    · rw [gk_none]
      exact fun x cs hx => hx
    · rw [tk_none]; exact hT
    · exact fun x y hxy => .inl ⟨hR0.fresh x y hxy, hxy⟩
end
end Go.Proofs.Ytkadelndmaegdaa.AX
