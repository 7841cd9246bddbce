/- The executor is sound: regions whose order is open, last part: whatever order is drawn, the region comes to what it comes to in the text's order. No condition beyond each law's own; nothing of the program. -/
import Derived.Test.YtkadelndmaegdaaAXn
namespace Go.Proofs.Ytkadelndmaegdaa.AX
open Go

/-- As Next, of heaps with one supply of names. -/
structure Nx (ρ : Map) (H : Heap) (w : World) (ρ' : Map) (H' : Heap) (w' : World) : Prop where
  le : Map.le ρ ρ'
  rel : Rel ρ' H' w'
  os : w'.os = w.os
  tape : w'.tape = w.tape
  output : w'.output = w.output
  size : w.heap.size ≤ w'.heap.size
  frame : ∀ b, b < w.heap.size → ¬ Owned ρ H b → w'.heap[b]? = w.heap[b]?
  from_ : ∀ b, Owned ρ' H' b → w.heap.size ≤ b ∨ Owned ρ H b
  views : ∀ i cs, H'.get i = some (.view cs) → H.get i = some (.view cs)
theorem Nx.trans {ρ ρ1 ρ2 : Map} {H H1 H2 : Heap} {w w1 w2 : World} (h : Nx ρ H w ρ1 H1 w1) (k : Nx ρ1 H1 w1 ρ2 H2 w2) : Nx ρ H w ρ2 H2 w2 where
  le := Map.le_trans h.le k.le
  rel := k.rel
  os := k.os.trans h.os
  tape := k.tape.trans h.tape
  output := k.output.trans h.output
  size := Nat.le_trans h.size k.size
  frame := fun b hb hn => by
    rw [k.frame b (Nat.lt_of_lt_of_le hb h.size) (fun ho => ?_), h.frame b hb hn]
    rcases h.from_ b ho with h1 | h1
    · omega
    · exact hn h1
  from_ := fun b ho => by
    rcases k.from_ b ho with h1 | h1
    · exact .inl (Nat.le_trans h.size h1)
    · exact h.from_ b h1
  views := fun i cs hi => h.views i cs (k.views i cs hi)
theorem Next.nx {ρ ρ' : Map} {H H' : Heap} {w w' : World} (h : Next ρ H w ρ' H' w') : Nx ρ H w ρ' H' w' := ⟨h.le, h.rel, h.os, h.tape, h.output, h.size, h.frame, h.from_, h.views⟩
/-- A block under a name that is kept for it. -/
theorem nx_put {ρ : Map} {G : Nat → Option Obj} {N : Nat} {w : World} (h : Rel ρ ⟨G, N⟩ w) {i : Nat} (hi : i < N) (hG : G i = none) (hρ : ρ i = none) (cs : List Value) (arr : Array Value) (e : TypeId) (hl : cs.length ≤ arr.size)
    (hc : ∀ (j : Nat) (c : Value), cs[j]? = some c → ∃ c', arr[j]? = some c' ∧ VL ρ c c') :
    Nx ρ ⟨G, N⟩ w (ρ.at_ i (⟨w.heap.size, 0, none⟩, arr.size)) ⟨fun x => if x = i then some (.own cs) else G x, N⟩ (w.alloc (.cells arr e)) := by
  have hle : Map.le ρ (ρ.at_ i (⟨w.heap.size, 0, none⟩, arr.size)) := Map.le_at hρ
  have hro : ∀ {j}, j ≠ i → ρ.at_ i (⟨w.heap.size, 0, none⟩, arr.size) j = ρ j := fun hj => by simp [Map.at_, hj]
  refine ⟨hle, ⟨?_, ?_, ?_, ?_, ?_⟩, rfl, rfl, rfl, by simp, fun b hb _ => alloc_lt hb, ?_, ?_⟩
  · intro j vs hj
    dsimp only at hj
    split at hj
    · injection hj with hj; cases hj
    · obtain ⟨b, L, h1, h2, h3⟩ := h.view j vs hj
      refine ⟨b, L, hle _ _ h1, by simp; omega, fun k c hk => ?_⟩
      obtain ⟨c', h4, h5⟩ := h3 k c hk
      exact ⟨c', by rw [cell_alloc_lt (by rw [add_block]; exact h2)]; exact h4, h5.le hle⟩
  · intro j vs hj
    dsimp only at hj
    split at hj
    · rename_i e1
      subst e1
      injection hj with hj; injection hj with hj; subst hj
      refine ⟨w.heap.size, 0, arr.size, Map.at_self _ _ _, arr, e, by rw [heap_alloc_at, if_pos rfl], by omega, hl, fun k c hk => ?_⟩
      obtain ⟨c', h4, h5⟩ := hc k c hk
      exact ⟨c', by simpa using h4, h5.le hle⟩
    · obtain ⟨g, off, L, h1, a, t, h2, h3, h3', h4⟩ := h.own j vs hj
      refine ⟨g, off, L, hle _ _ h1, a, t, by rw [alloc_lt (Array.getElem?_eq_some_iff.1 h2).1]; exact h2, h3, h3', fun k c hk => ?_⟩
      obtain ⟨c', h5, h6⟩ := h4 k c hk
      exact ⟨c', h5, h6.le hle⟩
  · intro a b vs o g off L b' L' ha hb hab hra hrb
    dsimp only at ha hb
    split at ha
    · rename_i e1
      subst e1
      rw [Map.at_self] at hra
      injection hra with hra; injection hra with hra _; injection hra with hra _
      rw [if_neg (fun e => hab e.symm)] at hb
      rw [hro (fun e => hab e.symm)] at hrb
      have := base_lt h hb hrb
      omega
    · rename_i hane
      rw [hro hane] at hra
      split at hb
      · rename_i e1
        subst e1
        rw [Map.at_self] at hrb
        injection hrb with hrb; injection hrb with hrb _; subst hrb
        have := base_lt h ha hra
        dsimp only at this ⊢
        omega
      · rename_i hbne
        rw [hro hbne] at hrb
        exact h.apart a b vs o g off L b' L' ha hb hab hra hrb
  · intro j o hj
    dsimp only at hj
    split at hj
    · rename_i e1; subst e1; exact hi
    · exact h.lt j o hj
  · intro j x hj
    by_cases e1 : j = i
    · subst e1; exact hi
    · rw [hro e1] at hj; exact h.fresh j x hj
  · rintro b ⟨j, vs, a, L, h1, h2, rfl⟩
    dsimp only at h1
    split at h1
    · rename_i e1
      subst e1
      rw [Map.at_self] at h2
      injection h2 with h2; injection h2 with h2 _; subst h2
      exact .inl (Nat.le_refl _)
    · rename_i e1
      rw [hro e1] at h2
      exact .inr ⟨j, vs, a, L, h1, h2, rfl⟩
  · intro j vs hj
    dsimp only at hj
    split at hj
    · injection hj with hj; cases hj
    · exact hj
section
variable {P : Program} {C : CallRel} {n : Nat} {ops : Array Oper} {pre : List (List Nat)} {os : List XO} {Ts : Nat → Tm} {Hs : Nat → Heap} {vs : Nat → Value} {S : Nat → Bool} {i : Nat} {xo : XO} {Q : Exit → Act → World → Prop} {ρ0 : Map} {w0 : World}
/-- The state when S is done. -/
structure St (n : Nat) (os : List XO) (Ts : Nat → Tm) (Hs : Nat → Heap) (vs : Nat → Value) (ρ0 : Map) (w0 : World) (S : Nat → Bool) (a : Act) (w : World) (ρ : Map) : Prop where
  nx : Nx ρ0 (Hs 0) w0 ρ ⟨gk os Hs S os.length, (Hs os.length).nxt⟩ w
  slots : TRel ρ n (tk os vs (Ts 0) S os.length) a
  dom : ∀ x y, ρ x = some y → (x < (Hs 0).nxt ∧ ρ0 x = some y) ∨ ∃ k, k < os.length ∧ S k = true ∧ (Hs k).nxt ≤ x ∧ x < (Hs (k + 1)).nxt
theorem guard_looks {t : Nat} {want : Bool} (h : xo.guard = some (t, want)) : t ∈ looksO xo := by simp [looksO, h]
theorem wanted_congr {T T' : Tm} {xo : XO} (h : ∀ t ∈ looksO xo, T' t = T t) : wanted T' xo.guard = wanted T xo.guard := by
  cases hg : xo.guard with
  | none => rfl
  | some p =>
    obtain ⟨t, want⟩ := p
    simp only [wanted]
    rw [h t (guard_looks hg)]
theorem ranges {hm : ∀ k, k < os.length → (Hs k).nxt ≤ (Hs (k + 1)).nxt} {j k x : Nat} (hj : j < os.length) (hk : k < os.length) (h1 : (Hs j).nxt ≤ x) (h2 : x < (Hs (j + 1)).nxt) (h3 : (Hs k).nxt ≤ x) (h4 : x < (Hs (k + 1)).nxt) : j = k := by
  rcases Nat.lt_trichotomy j k with h | h | h
  · have := nxt_mono hm (show j + 1 ≤ k by omega) (by omega); omega
  · exact h
  · have := nxt_mono hm (show k + 1 ≤ j by omega) (by omega); omega
theorem with_mono {k : Nat} (h : S k = true) : with_ S i k = true := by
  unfold with_; split
  · rfl
  · exact h
/-- An operation with an effect: what it needs lies in the text's heap; what it leaves is put beside what was made early. -/
theorem merge (hcan : Can P C n ops pre os Ts Hs vs) (hm : ∀ k, k < os.length → (Hs k).nxt ≤ (Hs (k + 1)).nxt) (hwf : ∀ k, k ≤ os.length → Wf n (Ts k) (Hs k)) (hn : Now pre os.length S i) (hxo : os[i]? = some xo) (hE : kindE xo.op = true)
    {a : Act} {w : World} {ρ : Map} (hst : St n os Ts Hs vs ρ0 w0 S a w ρ) :
    Rel (cut ρ (Hs i).nxt) (Hs i) w ∧ ∀ ρ' w', Next (cut ρ (Hs i).nxt) (Hs i) w ρ' (Hs (i + 1)) w' →
      ∃ ρ2, Map.le ρ ρ2 ∧ Map.le ρ' ρ2 ∧ Nx ρ ⟨gk os Hs S os.length, (Hs os.length).nxt⟩ w ρ2 ⟨gk os Hs (with_ S i) os.length, (Hs os.length).nxt⟩ w' ∧ (∀ x y, ρ2 x = some y → ρ x = some y ∨ (Hs i).nxt ≤ x ∧ x < (Hs (i + 1)).nxt) := by
  have hlt := hn.lt
  have hR := hst.nx.rel
  have hwi := (hwf i (by omega)).heap
  have hsub : ∀ x ob, (Hs i).get x = some ob → gk os Hs S os.length x = some ob := fun x ob h => by rw [gk_E2 hcan hm hn hxo hE (hwi x ob h).1]; exact h
  have hcutl : ∀ x y, cut ρ (Hs i).nxt x = some y → x < (Hs i).nxt := by
    intro x y h
    unfold cut at h
    split at h
    · assumption
    · cases h
  have hcutr : ∀ x, x < (Hs i).nxt → cut ρ (Hs i).nxt x = ρ x := fun x h => by unfold cut; rw [if_pos h]
  have R1 : Rel (cut ρ (Hs i).nxt) (Hs i) w := by
    refine ⟨fun x cs hx => ?_, fun x cs hx => ?_, ?_, fun x o hx => (hwi x o hx).1, fun x y hx => hcutl x y hx⟩
    · obtain ⟨b, L, h1, h2, h3⟩ := hR.view x cs (hsub x _ hx)
      refine ⟨b, L, by rw [hcutr x (hwi x _ hx).1]; exact h1, h2, fun j c hj => ?_⟩
      obtain ⟨c', h4, h5⟩ := h3 j c hj
      exact ⟨c', h4, h5.cut_ ((hwi x _ hx).2 c (List.mem_of_getElem? hj))⟩
    · obtain ⟨g, off, L, h1, arr, e, h2, h3, h4, h5⟩ := hR.own x cs (hsub x _ hx)
      refine ⟨g, off, L, by rw [hcutr x (hwi x _ hx).1]; exact h1, arr, e, h2, h3, h4, fun j c hj => ?_⟩
      obtain ⟨c', h6, h7⟩ := h5 j c hj
      exact ⟨c', h6, h7.cut_ ((hwi x _ hx).2 c (List.mem_of_getElem? hj))⟩
    · intro x y cs o g off L b L' hx hy hxy hrx hry
      exact hR.apart x y cs o g off L b L' (hsub x _ hx) (hsub y _ hy) hxy (cut_le ρ _ _ _ hrx) (cut_le ρ _ _ _ hry)
  refine ⟨R1, fun ρ' w' hN => ?_⟩
  have hmi := hm i hlt
  have hN1 := nxt_mono hm (show i + 1 ≤ os.length by omega) (Nat.le_refl _)
  have hG : ∀ x, gk os Hs (with_ S i) os.length x = if x < (Hs (i + 1)).nxt then (Hs (i + 1)).get x else gk os Hs S os.length x :=
    gk_E3 hcan hm (fun k hk x ob h => ((hwf k hk).heap x ob h).1) hn hxo hE
  -- no name of this operation is in use
  have hfree : ∀ x, (Hs i).nxt ≤ x → x < (Hs (i + 1)).nxt → ρ x = none := by
    intro x h1 h2
    cases hx : ρ x with
    | none => rfl
    | some y =>
      rcases hst.dom x y hx with ⟨h3, _⟩ | ⟨k, hk, hSk, h3, h4⟩
      · have := nxt_mono hm (Nat.zero_le i) (by omega); omega
      · have := ranges (hm := hm) hlt hk h1 h2 h3 h4
        subst this
        rw [hn.not] at hSk; cases hSk
  let ρ2 : Map := fun x => if x < (Hs (i + 1)).nxt then ρ' x else ρ x
  have e2a : ∀ x, x < (Hs (i + 1)).nxt → ρ2 x = ρ' x := fun x h => by simp only [ρ2, if_pos h]
  have e2b : ∀ x, ¬ x < (Hs (i + 1)).nxt → ρ2 x = ρ x := fun x h => by simp only [ρ2, if_neg h]
  have le1 : Map.le ρ ρ2 := by
    intro x y hx
    by_cases h1 : x < (Hs i).nxt
    · rw [e2a x (by omega)]
      exact hN.le x y (by rw [hcutr x h1]; exact hx)
    · by_cases h2 : x < (Hs (i + 1)).nxt
      · rw [hfree x (by omega) h2] at hx; cases hx
      · rw [e2b x h2]; exact hx
  have le2 : Map.le ρ' ρ2 := fun x y hx => by rw [e2a x (hN.rel.fresh x y hx)]; exact hx
  have own_old : ∀ b, Owned (cut ρ (Hs i).nxt) (Hs i) b → Owned ρ ⟨gk os Hs S os.length, (Hs os.length).nxt⟩ b := fun b ⟨x, cs, ad, L, h1, h2, h3⟩ => ⟨x, cs, ad, L, hsub x _ h1, cut_le ρ _ _ _ h2, h3⟩
  -- an object made early lies where nobody has been
  have far : ∀ x o, ¬ x < (Hs (i + 1)).nxt → gk os Hs S os.length x = some o → ∀ b L, ρ x = some (b, L) → b.block < w.heap.size ∧ ¬ Owned (cut ρ (Hs i).nxt) (Hs i) b.block := by
    intro x o hx ho b L hr
    refine ⟨base_lt hR ho hr, ?_⟩
    rintro ⟨y, cs, ad, L', h1, h2, h3⟩
    obtain ⟨g, off, L2, h4, _⟩ := hR.own y cs (hsub y _ h1)
    have h2' := cut_le ρ _ _ _ h2
    rw [h2'] at h4
    injection h4 with h4; injection h4 with h4 _; subst h4
    have hne : y ≠ x := fun e => by have := (hwi y _ h1).1; omega
    exact hR.apart y x cs o g off L' b L (hsub y _ h1) ho hne h2' hr h3.symm
  have stay : ∀ x o, ¬ x < (Hs (i + 1)).nxt → gk os Hs S os.length x = some o → ∀ b L, ρ x = some (b, L) → w'.heap[b.block]? = w.heap[b.block]? := fun x o hx ho b L hr => hN.frame _ (far x o hx ho b L hr).1 (far x o hx ho b L hr).2
  have R2 : Rel ρ2 ⟨gk os Hs (with_ S i) os.length, (Hs os.length).nxt⟩ w' := by
    refine ⟨fun x cs hx => ?_, fun x cs hx => ?_, ?_, fun x o hx => ?_, fun x y hx => ?_⟩
    · dsimp only at hx
      rw [hG] at hx
      split at hx
      · rename_i h
        obtain ⟨b, L, h1, h2, h3⟩ := hN.rel.view x cs hx
        refine ⟨b, L, le2 _ _ h1, h2, fun j c hj => ?_⟩
        obtain ⟨c', h4, h5⟩ := h3 j c hj
        exact ⟨c', h4, h5.le le2⟩
      · rename_i h
        obtain ⟨b, L, h1, h2, h3⟩ := hR.view x cs hx
        refine ⟨b, L, le1 _ _ h1, Nat.lt_of_lt_of_le h2 hN.size, fun j c hj => ?_⟩
        obtain ⟨c', h4, h5⟩ := h3 j c hj
        refine ⟨c', ?_, h5.le le1⟩
        rw [World.cell?_of_block (a := b.add j) (w := w) (w' := w') (by rw [add_block]; exact stay x _ h hx b L h1)]
        exact h4
    · dsimp only at hx
      rw [hG] at hx
      split at hx
      · rename_i h
        obtain ⟨g, off, L, h1, arr, e, h2, h3, h4, h5⟩ := hN.rel.own x cs hx
        refine ⟨g, off, L, le2 _ _ h1, arr, e, h2, h3, h4, fun j c hj => ?_⟩
        obtain ⟨c', h6, h7⟩ := h5 j c hj
        exact ⟨c', h6, h7.le le2⟩
      · rename_i h
        obtain ⟨g, off, L, h1, arr, e, h2, h3, h4, h5⟩ := hR.own x cs hx
        refine ⟨g, off, L, le1 _ _ h1, arr, e, ?_, h3, h4, fun j c hj => ?_⟩
        · have := stay x _ h hx _ L h1
          dsimp only at this
          rw [this]; exact h2
        · obtain ⟨c', h6, h7⟩ := h5 j c hj
          exact ⟨c', h6, h7.le le1⟩
    · intro x y cs o g off L b L' hx hy hxy hrx hry
      dsimp only at hx hy
      rw [hG] at hx hy
      split at hx
      · rename_i h1
        rw [e2a x h1] at hrx
        split at hy
        · rename_i h2
          rw [e2a y h2] at hry
          exact hN.rel.apart x y cs o g off L b L' hx hy hxy hrx hry
        · rename_i h2
          rw [e2b y h2] at hry
          have hf := far y o h2 hy b L' hry
          intro e
          have : Owned ρ' (Hs (i + 1)) b.block := ⟨x, cs, _, L, hx, hrx, e.symm⟩
          rcases hN.from_ _ this with h3 | h3
          · omega
          · exact hf.2 h3
      · rename_i h1
        rw [e2b x h1] at hrx
        split at hy
        · rename_i h2
          rw [e2a y h2] at hry
          have hf := far x _ h1 hx _ L hrx
          dsimp only at hf
          intro e
          cases o with
          | own cs2 =>
            have : Owned ρ' (Hs (i + 1)) g := ⟨y, cs2, b, L', hy, hry, e⟩
            rcases hN.from_ _ this with h3 | h3
            · omega
            · exact hf.2 h3
          | view cs2 =>
            have hv := hN.views y cs2 hy
            have hyl := (hwi y _ hv).1
            obtain ⟨b', L2, h3, _⟩ := R1.view y cs2 hv
            have h4 := hN.le y _ h3
            rw [hry] at h4
            injection h4 with h4; injection h4 with h4 h5; subst h4; subst h5
            exact hR.apart x y cs _ g off L b L' hx (hsub y _ hv) hxy hrx (cut_le ρ _ _ _ h3) e
        · rename_i h2
          rw [e2b y h2] at hry
          exact hR.apart x y cs o g off L b L' hx hy hxy hrx hry
    · dsimp only at hx ⊢
      rw [hG] at hx
      split at hx
      · omega
      · exact hR.lt x o hx
    · dsimp only
      by_cases h : x < (Hs (i + 1)).nxt
      · omega
      · rw [e2b x h] at hx; exact hR.fresh x y hx
  refine ⟨ρ2, le1, le2, ⟨le1, R2, hN.os, hN.tape, hN.output, hN.size, fun b hb hno => hN.frame b hb (fun h => hno (own_old b h)), ?_, ?_⟩, ?_⟩
  · rintro b ⟨x, cs, ad, L, hx, hr, rfl⟩
    dsimp only at hx
    rw [hG] at hx
    split at hx
    · rename_i h
      rw [e2a x h] at hr
      rcases hN.from_ _ ⟨x, cs, ad, L, hx, hr, rfl⟩ with h3 | h3
      · exact .inl h3
      · exact .inr (own_old _ h3)
    · rename_i h
      rw [e2b x h] at hr
      exact .inr ⟨x, cs, ad, L, hx, hr, rfl⟩
  · intro x cs hx
    dsimp only at hx ⊢
    rw [hG] at hx
    split at hx
    · exact hsub x _ (hN.views x cs hx)
    · exact hx
  · intro x y hx
    by_cases h : x < (Hs (i + 1)).nxt
    · rw [e2a x h] at hx
      by_cases h2 : x < (Hs i).nxt
      · have := hN.old x y h2 hx
        exact .inl (cut_le ρ _ _ _ this)
      · exact .inr ⟨by omega, h⟩
    · rw [e2b x h] at hx; exact .inl hx
end
section
variable {P : Program} {C : CallRel} {o : Oper} {a : Act} {w : World} {K : Act → World → Prop} {Q : Exit → Act → World → Prop} {ρ : Map} {n : Nat} {T : Tm} {H H' : Heap} {v : Value}
theorem args_sound' : ∀ (xs : List Operand) (ys : List XArg), xs.mapM (carg n) = some ys → (∀ x y, carg n x = some y → y ∈ ys → VR ρ (ev T y) (a.eval x)) → All2 (VR ρ) (ys.map (ev T)) (xs.map a.eval)
  | [], ys, h, _ => by simp at h; subst h; exact .nil
  | x :: xs, ys, h, hv => by
    simp only [List.mapM_cons, Option.bind_eq_bind, Option.bind_eq_some_iff, Option.pure_def, Option.some.injEq] at h
    obtain ⟨y, hy, ys', hys, rfl⟩ := h
    exact .cons (hv x y hy (by simp)) (args_sound' xs ys' hys (fun x' y' h1 h2 => hv x' y' h1 (by simp [h2])))
theorem eff_call (hC : CallSound P C) {f : FuncId} {ys : List XArg} (hc : cop P n o.op = some (.call f ys)) (hv : ∀ x y, carg n x = some y → (∀ t ∈ argT y, t ∈ looks (.call f ys)) → VR ρ (ev T y) (a.eval x)) (hR : Rel ρ H w) (hs : Opv C T H (.call f ys) v H') : Sound P o a w K Q ρ H v H' := by
  intro hk
  obtain ⟨args, ats, fn, hop, hfn, hname, hargs⟩ := call_form hc
  simp only [Opv, Op1] at hs
  obtain ⟨v0, H0, h1, rfl, rfl⟩ := hs
  refine call_wp hC hop hfn hR ?_ h1 (fun v' ρ' w' hv' hN => hk v' w' ρ' hv' hN)
  rw [Array.toList_map]
  exact args_sound' _ _ hargs (fun x y h2 h3 => hv x y h2 (fun t ht => List.mem_flatMap.2 ⟨y, h3, ht⟩))
theorem eff_calld (hC : CallSound P C) {x : XArg} {ys : List XArg} (hc : cop P n o.op = some (.calld x ys)) (hv : ∀ x' y, carg n x' = some y → (∀ t ∈ argT y, t ∈ looks (.calld x ys)) → VR ρ (ev T y) (a.eval x')) (hR : Rel ρ H w) (hs : Opv C T H (.calld x ys) v H') : Sound P o a w K Q ρ H v H' := by
  intro hk
  obtain ⟨t, args, ats, hop, hx, hargs⟩ := calld_form hc
  simp only [Opv, Op1] at hs
  obtain ⟨f, cs, ef, v0, H0, h1, rfl, rfl⟩ := hs
  have hf := hv _ _ hx (fun t ht => List.mem_append_left _ ht)
  rw [ef] at hf
  refine calld_wp hC hop hR hf ?_ h1 (fun v' ρ' w' hv' hN => hk v' w' ρ' hv' hN)
  rw [Array.toList_map]
  exact args_sound' _ _ hargs (fun x' y h2 h3 => hv x' y h2 (fun t ht => List.mem_append_right _ (List.mem_flatMap.2 ⟨y, h3, ht⟩)))
/-- An operation with an effect, its operands told one by one. -/
theorem eff_sound (hC : CallSound P C) {xo : XOp} (hc : cop P n o.op = some xo) (hE : kindE xo = true) (hv : ∀ x y, carg n x = some y → (∀ t ∈ argT y, t ∈ looks xo) → VR ρ (ev T y) (a.eval x)) (hR : Rel ρ H w) (hs : Opv C T H xo v H') : Sound P o a w K Q ρ H v H' := by
  have hc0 := hc
  cases hop : o.op with
  | move x =>
    rw [hop] at hc
    simp only [cop, Option.map_eq_some_iff] at hc
    obtain ⟨y, hy, rfl⟩ := hc
    cases hE
  | assign x =>
    rw [hop] at hc
    simp only [cop, Option.map_eq_some_iff] at hc
    obtain ⟨y, hy, rfl⟩ := hc
    cases hE
  | pick c x y =>
    rw [hop] at hc
    simp only [cop, Option.bind_eq_bind, Option.bind_eq_some_iff, Option.pure_def, Option.some.injEq] at hc
    obtain ⟨c', hc', x', hx', y', hy', rfl⟩ := hc
    cases hE
  | alloc e =>
    rw [hop] at hc
    simp only [cop, Option.bind_eq_some_iff] at hc
    obtain ⟨zs, hz, hc⟩ := hc
    split at hc
    · rename_i hf
      injection hc with hc
      subst hc
      cases hE
    · cases hc
  | box e x =>
    rw [hop] at hc
    simp only [cop, Option.map_eq_some_iff] at hc
    obtain ⟨y, hy, rfl⟩ := hc
    cases hE
  | build t parts =>
    rw [hop] at hc
    simp only [cop] at hc
    split at hc
    · rename_i fs hu
      simp only [Option.bind_eq_bind, Option.bind_eq_some_iff] at hc
      obtain ⟨zs, hz, places, hp, ps, hps, hc⟩ := hc
      split at hc
      · rename_i hf
        injection hc with hc
        subst hc
        cases hE
      · cases hc
    · cases hc
  | buildSlice t len parts =>
    rw [hop] at hc
    simp only [cop] at hc
    split at hc
    · rename_i e hu
      simp only [Option.bind_eq_bind, Option.bind_eq_some_iff] at hc
      obtain ⟨i, hi, z, hz, hc⟩ := hc
      split at hc
      · cases hc
      · rename_i hcond
        simp only [Option.bind_eq_some_iff, Option.pure_def, Option.some.injEq] at hc
        obtain ⟨ps, hps, rfl⟩ := hc
        have h1 : ¬ len * i.size > 2 ^ 24 := fun h => hcond (.inl h)
        have h2 : z.cells.toList.all flatB = true := Classical.byContradiction fun h => hcond (.inr h)
        cases hE
    · cases hc
  | load t p =>
    rw [hop] at hc
    simp only [cop, Option.bind_eq_bind, Option.bind_eq_some_iff] at hc
    obtain ⟨x, hx, ag, hag, hc⟩ := hc
    cases ag with
    | true =>
      simp only [Option.bind_eq_some_iff, Option.pure_def, Option.some.injEq] at hc
      obtain ⟨m, hm, rfl⟩ := hc
      cases hE
    | false =>
      simp only [Option.pure_def, Option.some.injEq] at hc
      subst hc
      cases hE
  | store t p x =>
    rw [hop] at hc
    simp only [cop, Option.bind_eq_bind, Option.bind_eq_some_iff, Option.pure_def, Option.some.injEq] at hc
    obtain ⟨m, hm, y, hy, z, hz, rfl⟩ := hc
    exact s_store' hop (hv _ _ hy (fun t ht => List.mem_append_left _ ht)) (hv _ _ hz (fun t ht => List.mem_append_right _ ht)) hm hR (hs.step (fun f xs e => by cases e) (fun f xs e => by cases e))
  | nilCheck x =>
    rw [hop] at hc
    simp only [cop, Option.map_eq_some_iff] at hc
    obtain ⟨y, hy, rfl⟩ := hc
    cases hE
  | binOp op t x y yt =>
    rw [hop] at hc
    simp only [cop] at hc
    split at hc
    · simp only [Option.bind_eq_bind, Option.bind_eq_some_iff, Option.pure_def, Option.some.injEq] at hc
      obtain ⟨x', hx', y', hy', rfl⟩ := hc
      cases hE
    · simp only [Option.bind_eq_bind, Option.bind_eq_some_iff, Option.pure_def, Option.some.injEq] at hc
      obtain ⟨x', hx', y', hy', rfl⟩ := hc
      cases hE
    · simp only [Option.bind_eq_bind, Option.bind_eq_some_iff, Option.pure_def, Option.some.injEq] at hc
      obtain ⟨x', hx', y', hy', rfl⟩ := hc
      cases hE
    · rename_i hu
      split at hc
      · simp only [Option.bind_eq_bind, Option.bind_eq_some_iff, Option.pure_def, Option.some.injEq] at hc
        obtain ⟨x', hx', y', hy', rfl⟩ := hc
        cases hE
      · simp only [Option.bind_eq_bind, Option.bind_eq_some_iff, Option.pure_def, Option.some.injEq] at hc
        obtain ⟨x', hx', y', hy', rfl⟩ := hc
        cases hE
      · cases hc
    · rename_i fs hu
      split at hc
      · cases hc
      · split at hc
        · simp only [Option.bind_eq_bind, Option.bind_eq_some_iff, Option.pure_def, Option.some.injEq] at hc
          obtain ⟨os, hos, x', hx', y', hy', rfl⟩ := hc
          cases hE
        · simp only [Option.bind_eq_bind, Option.bind_eq_some_iff, Option.pure_def, Option.some.injEq] at hc
          obtain ⟨os, hos, x', hx', y', hy', rfl⟩ := hc
          cases hE
        · cases hc
    · cases hc
  | unOp op t x =>
    rw [hop] at hc
    simp only [cop, Option.map_eq_some_iff] at hc
    obtain ⟨y, hy, rfl⟩ := hc
    cases hE
  | convert s d x =>
    rw [hop] at hc
    simp only [cop] at hc
    split at hc
    · rename_i k0 k hs0 hd
      simp only [Option.map_eq_some_iff] at hc
      obtain ⟨y, hy, rfl⟩ := hc
      cases hE
    · rename_i k0 k hs0 hd
      simp only [Option.map_eq_some_iff] at hc
      obtain ⟨y, hy, rfl⟩ := hc
      cases hE
    · rename_i k0 k hs0 hd
      split at hc
      · simp only [Option.map_eq_some_iff] at hc
        obtain ⟨y, hy, rfl⟩ := hc
        cases hE
      · cases hc
    · rename_i e hs0 hd
      split at hc
      · simp only [Option.map_eq_some_iff] at hc
        obtain ⟨y, hy, rfl⟩ := hc
        cases hE
      · cases hc
    · cases hc
  | makeSlice t l c =>
    rw [hop] at hc
    simp only [cop] at hc
    split at hc
    · rename_i e hu
      simp only [Option.bind_eq_bind, Option.bind_eq_some_iff] at hc
      obtain ⟨i, hi, z, hz, hc⟩ := hc
      split at hc
      · rename_i hcond
        simp only [Option.bind_eq_some_iff, Option.pure_def, Option.some.injEq] at hc
        obtain ⟨l', hl', c', hc', rfl⟩ := hc
        cases hE
      · cases hc
    · cases hc
  | slice t x lo hi mx =>
    rw [hop] at hc
    simp only [cop] at hc
    split at hc
    · rename_i e hu
      simp only [Option.bind_eq_bind, Option.bind_eq_some_iff, Option.pure_def, Option.some.injEq] at hc
      obtain ⟨m, hm, x', hx', lo', hlo, hi', hhi, mx', hmx, rfl⟩ := hc
      cases hE
    · rename_i hu
      split at hc
      · simp only [Option.bind_eq_bind, Option.bind_eq_some_iff, Option.pure_def, Option.some.injEq] at hc
        obtain ⟨x', hx', lo', hlo, hi', hhi, rfl⟩ := hc
        cases hE
      · cases hc
    · cases hc
  | fieldAddr s x f =>
    rw [hop] at hc
    simp only [cop] at hc
    split at hc
    · rename_i fs hu
      simp only [Option.bind_eq_bind, Option.bind_eq_some_iff] at hc
      obtain ⟨fd, hf, m, hm, hc⟩ := hc
      split at hc
      · cases hc
      · rename_i hm0
        simp only [Option.bind_eq_some_iff, Option.pure_def, Option.some.injEq] at hc
        first
          | (obtain ⟨y, hy, rfl⟩ := hc
             cases hE)
          | (obtain ⟨_, y, hy, rfl⟩ := hc
             cases hE)
    · cases hc
  | field s x f =>
    rw [hop] at hc
    simp only [cop] at hc
    split at hc
    · rename_i fs hu
      simp only [Option.bind_eq_bind, Option.bind_eq_some_iff] at hc
      obtain ⟨fd, hf, ag, hag, hc⟩ := hc
      cases ag with
      | true =>
        simp only [Option.bind_eq_some_iff, Option.pure_def, Option.some.injEq] at hc
        obtain ⟨m, hm, y, hy, rfl⟩ := hc
        cases hE
      | false =>
        simp only [Option.bind_eq_some_iff, Option.pure_def, Option.some.injEq] at hc
        obtain ⟨y, hy, rfl⟩ := hc
        cases hE
    · cases hc
  | indexAddr t x i =>
    rw [hop] at hc
    simp only [cop] at hc
    split at hc
    · rename_i e hu
      simp only [Option.bind_eq_bind, Option.bind_eq_some_iff, Option.pure_def, Option.some.injEq] at hc
      obtain ⟨m, hm, y, hy, z, hz, rfl⟩ := hc
      cases hE
    · rename_i len e hu
      simp only [Option.bind_eq_bind, Option.bind_eq_some_iff, Option.pure_def, Option.some.injEq] at hc
      obtain ⟨m, hm, y, hy, z, hz, rfl⟩ := hc
      cases hE
    · cases hc
  | index t x i =>
    rw [hop] at hc
    simp only [cop] at hc
    split at hc
    · rename_i hu
      simp only [Option.bind_eq_bind, Option.bind_eq_some_iff, Option.pure_def, Option.some.injEq] at hc
      obtain ⟨y, hy, z, hz, rfl⟩ := hc
      cases hE
    · cases hc
  | extract x i =>
    rw [hop] at hc
    simp only [cop, Option.map_eq_some_iff] at hc
    obtain ⟨y, hy, rfl⟩ := hc
    cases hE
  | call c =>
    rw [hop] at hc
    obtain ⟨callee, args, ats⟩ := c
    cases callee with
    | value f =>
      cases f with
      | func f =>
        simp only [cop] at hc
        split at hc
        · split at hc
          · cases hc
          · simp only [Option.map_eq_some_iff] at hc
            obtain ⟨ys, _, rfl⟩ := hc
            exact eff_call hC hc0 hv hR hs
        · cases hc
      | tmp t =>
        simp only [cop] at hc
        split at hc
        · simp only [Option.map_eq_some_iff] at hc
          obtain ⟨ys, _, rfl⟩ := hc
          exact eff_calld hC hc0 hv hR hs
        · cases hc
      | _ => simp [cop] at hc
    | invoke r m => simp [cop] at hc
    | builtin b =>
      cases b with
      | len =>
        simp only [cop] at hc
        split at hc
        · rename_i x e hargs hu
          simp only [Option.map_eq_some_iff] at hc
          obtain ⟨y, hy, rfl⟩ := hc
          simp only [Option.bind_eq_some_iff] at hu
          obtain ⟨t, ht, hu⟩ := hu
          have ha : args = #[x] := by rw [← Array.toList_inj]; exact hargs
          subst ha
          cases hE
        · rename_i x hargs hu
          simp only [Option.map_eq_some_iff] at hc
          obtain ⟨y, hy, rfl⟩ := hc
          simp only [Option.bind_eq_some_iff] at hu
          obtain ⟨t, ht, hu⟩ := hu
          have ha : args = #[x] := by rw [← Array.toList_inj]; exact hargs
          subst ha
          cases hE
        · cases hc
      | append =>
        simp only [cop] at hc
        split at hc
        · rename_i s x st xt hargs hats
          split at hc
          · rename_i e hu
            simp only [Option.bind_eq_bind, Option.bind_eq_some_iff] at hc
            obtain ⟨i, hi, z, hz, hc⟩ := hc
            split at hc
            · rename_i hcond
              simp only [Option.bind_eq_some_iff, Option.pure_def, Option.some.injEq] at hc
              obtain ⟨s', hs', x', hx', rfl⟩ := hc
              obtain ⟨rfl, h1, h2, h3⟩ := hcond
              have ha : args = #[s, x] := by rw [← Array.toList_inj]; exact hargs
              have hb : ats = #[st, st] := by rw [← Array.toList_inj]; exact hats
              subst ha
              subst hb
              exact s_app' hop hu hi hz h1 h3 (hv _ _ hs' (fun t ht => List.mem_append_left _ ht)) (hv _ _ hx' (fun t ht => List.mem_append_right _ ht)) hR (hs.step (fun f xs e => by cases e) (fun f xs e => by cases e))
            · cases hc
          · cases hc
        · cases hc
      | max =>
        simp only [cop] at hc
        split at hc
        · rename_i x y hargs
          simp only [Option.bind_eq_bind, Option.bind_eq_some_iff, Option.pure_def, Option.some.injEq] at hc
          obtain ⟨x', hx', y', hy', rfl⟩ := hc
          have ha : args = #[x, y] := by rw [← Array.toList_inj]; exact hargs
          subst ha
          cases hE
        · cases hc
      | min =>
        simp only [cop] at hc
        split at hc
        · rename_i x y hargs
          simp only [Option.bind_eq_bind, Option.bind_eq_some_iff, Option.pure_def, Option.some.injEq] at hc
          obtain ⟨x', hx', y', hy', rfl⟩ := hc
          have ha : args = #[x, y] := by rw [← Array.toList_inj]; exact hargs
          subst ha
          cases hE
        · cases hc
      | _ => simp [cop] at hc
  | makeFunc g first caps =>
    rw [hop] at hc
    cases g with
    | func g =>
      simp only [cop] at hc
      split at hc
      · simp only [Option.map_eq_some_iff] at hc
        obtain ⟨ys, hys, rfl⟩ := hc
        cases hE
      · cases hc
    | _ => simp [cop] at hc
  | _ => rw [hop] at hc; simp [cop] at hc
end
end Go.Proofs.Ytkadelndmaegdaa.AX
