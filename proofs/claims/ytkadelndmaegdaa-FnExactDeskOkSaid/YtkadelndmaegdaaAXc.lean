/- The executor's heap and the model's memory: what an allocation, a store, an append do to both. No condition beyond each law's own; nothing of the program. -/
import Derived.Test.YtkadelndmaegdaaAXb
import Derived.Laws.Cells
import Derived.Laws.CopyRow
import Derived.Laws.Append
import Derived.Laws.AppendOwn
import Derived.OwnWalk
namespace Go.Proofs.Ytkadelndmaegdaa.AX
open Go

theorem heap_alloc_at (w : World) (o : Go.Obj) (k : Nat) : (w.alloc o).heap[k]? = if k = w.heap.size then some o else w.heap[k]? := by
  simp only [World.alloc, Array.getElem?_push]
theorem alloc_lt {w : World} {o : Go.Obj} {k : Nat} (h : k < w.heap.size) : (w.alloc o).heap[k]? = w.heap[k]? := by
  rw [heap_alloc_at, if_neg (by omega)]
theorem cell_alloc_lt {w : World} {o : Go.Obj} {a : Addr} (h : a.block < w.heap.size) : (w.alloc o).cell? a = w.cell? a := World.cell?_of_block (alloc_lt h)
theorem own_lt {ρ : Map} {H : Heap} {w : World} (h : Rel ρ H w) {b : Nat} (ho : Owned ρ H b) : b < w.heap.size := by
  obtain ⟨i, cs, a, L, h1, h2, rfl⟩ := ho
  obtain ⟨g, off, L', h3, arr, e, h4, _⟩ := h.own i cs h1
  rw [h2] at h3
  injection h3 with h3
  injection h3 with h3 _
  subst h3
  exact (Array.getElem?_eq_some_iff.1 h4).1
theorem base_lt {ρ : Map} {H : Heap} {w : World} (h : Rel ρ H w) {i : Nat} {o : Obj} (hi : H.get i = some o) {b : Addr} {L : Nat} (hr : ρ i = some (b, L)) : b.block < w.heap.size := by
  cases o with
  | view cs =>
    obtain ⟨b', L', h1, h2, _⟩ := h.view i cs hi
    rw [hr] at h1; injection h1 with h1; injection h1 with h1 _; subst h1; exact h2
  | own cs => exact own_lt h ⟨i, cs, b, L, hi, hr, rfl⟩
/-- A new block. -/
theorem next_push {ρ : Map} {H : Heap} {w : World} (h : Rel ρ H w) (cs : List Value) (arr : Array Value) (e : TypeId) (hl : cs.length ≤ arr.size)
    (hc : ∀ (j : Nat) (c : Value), cs[j]? = some c → ∃ c', arr[j]? = some c' ∧ VL ρ c c') :
    Next ρ H w (ρ.at_ H.nxt (⟨w.heap.size, 0, none⟩, arr.size)) (H.push cs) (w.alloc (.cells arr e)) := by
  have hf : ρ H.nxt = none := by
    cases hx : ρ H.nxt with
    | none => rfl
    | some x => have := h.fresh _ _ hx; omega
  have hle : Map.le ρ (ρ.at_ H.nxt (⟨w.heap.size, 0, none⟩, arr.size)) := Map.le_at hf
  have hne : ∀ {i o}, H.get i = some o → i ≠ H.nxt := fun hi he => by have := h.lt _ _ hi; omega
  have hgo : ∀ {i}, i ≠ H.nxt → (H.push cs).get i = H.get i := fun hi => by simp [Heap.push, hi]
  have hro : ∀ {i}, i ≠ H.nxt → ρ.at_ H.nxt (⟨w.heap.size, 0, none⟩, arr.size) i = ρ i := fun hi => by simp [Map.at_, hi]
  have hself : (H.push cs).get H.nxt = some (.own cs) := by simp [Heap.push]
  refine ⟨hle, ⟨?_, ?_, ?_, ?_, ?_⟩, rfl, rfl, rfl, by simp, by simp [Heap.push], fun b hb _ => alloc_lt hb, ?_, ?_, ?_⟩
  · intro i vs hi
    by_cases hi' : i = H.nxt
    · subst hi'; rw [hself] at hi; cases hi
    · rw [hgo hi'] at hi
      obtain ⟨b, L, h1, h2, h3⟩ := h.view i vs hi
      refine ⟨b, L, hle _ _ h1, by simp; omega, fun j c hj => ?_⟩
      obtain ⟨c', h4, h5⟩ := h3 j c hj
      exact ⟨c', by rw [cell_alloc_lt (by rw [add_block]; exact h2)]; exact h4, h5.le hle⟩
  · intro i vs hi
    by_cases hi' : i = H.nxt
    · subst hi'
      rw [hself] at hi; injection hi with hi; injection hi with hi; subst hi
      refine ⟨w.heap.size, 0, arr.size, Map.at_self _ _ _, arr, e, by rw [heap_alloc_at, if_pos rfl], by omega, hl, fun j c hj => ?_⟩
      obtain ⟨c', h4, h5⟩ := hc j c hj
      exact ⟨c', by simpa using h4, h5.le hle⟩
    · rw [hgo hi'] at hi
      obtain ⟨g, off, L, h1, a, t, h2, h3, h3', h4⟩ := h.own i vs hi
      refine ⟨g, off, L, hle _ _ h1, a, t, by rw [alloc_lt (Array.getElem?_eq_some_iff.1 h2).1]; exact h2, h3, h3', fun j c hj => ?_⟩
      obtain ⟨c', h5, h6⟩ := h4 j c hj
      exact ⟨c', h5, h6.le hle⟩
  · intro i j vs o g off L b L' hi hj hij hri hrj
    by_cases hi' : i = H.nxt
    · subst hi'
      rw [Map.at_self] at hri
      injection hri with hri; injection hri with hri _; injection hri with hri _
      have hj' : j ≠ H.nxt := fun he => hij he.symm
      rw [hgo hj'] at hj
      rw [hro hj'] at hrj
      have := base_lt h hj hrj
      omega
    · rw [hgo hi'] at hi
      rw [hro hi'] at hri
      by_cases hj' : j = H.nxt
      · subst hj'
        rw [Map.at_self] at hrj
        injection hrj with hrj; injection hrj with hrj _; subst hrj
        have := base_lt h hi hri
        dsimp only at this ⊢
        omega
      · rw [hgo hj'] at hj
        rw [hro hj'] at hrj
        exact h.apart i j vs o g off L b L' hi hj hij hri hrj
  · intro i o hi
    by_cases hi' : i = H.nxt
    · subst hi'; simp [Heap.push]
    · rw [hgo hi'] at hi
      have := h.lt i o hi
      simp [Heap.push]; omega
  · intro i x hi
    by_cases hi' : i = H.nxt
    · subst hi'; simp [Heap.push]
    · rw [hro hi'] at hi
      have := h.fresh i x hi
      simp [Heap.push]; omega
  · rintro b ⟨i, vs, a, L, h1, h2, rfl⟩
    by_cases hi' : i = H.nxt
    · subst hi'
      rw [Map.at_self] at h2
      injection h2 with h2; injection h2 with h2 _; subst h2
      exact .inl (Nat.le_refl _)
    · rw [hgo hi'] at h1
      rw [hro hi'] at h2
      exact .inr ⟨i, vs, a, L, h1, h2, rfl⟩
  · intro i vs hi
    by_cases hi' : i = H.nxt
    · subst hi'; rw [hself] at hi; cases hi
    · rwa [hgo hi'] at hi
  · intro i x hi hx
    rwa [hro (by omega)] at hx
theorem cell_setRow_ne {w : World} {g : Nat} {cs : Array Value} {a : Addr} (h : a.block ≠ g) : (w.setRow g cs).cell? a = w.cell? a := cell_setRow_other w g cs a h
/-- Own memory is written. -/
theorem next_set {ρ : Map} {H : Heap} {w : World} (h : Rel ρ H w) {i : Nat} {old : List Value} (hi : H.get i = some (.own old)) {g off L : Nat} (hr : ρ i = some (⟨g, off, none⟩, L))
    (cs : List Value) (arr : Array Value) {arr0 : Array Value} {e : TypeId} (h0 : w.heap[g]? = some (.cells arr0 e (0, 0))) (_hs : arr.size = arr0.size) (hl : cs.length ≤ L) (hL : off + L ≤ arr.size)
    (hc : ∀ (j : Nat) (c : Value), cs[j]? = some c → ∃ c', arr[off + j]? = some c' ∧ VL ρ c c') :
    Next ρ H w ρ (H.set i cs) (w.setRow g arr) := by
  have hg : g < w.heap.size := (Array.getElem?_eq_some_iff.1 h0).1
  have hgo : ∀ {j}, j ≠ i → (H.set i cs).get j = H.get j := fun hj => by simp [Heap.set, hj]
  have hself : (H.set i cs).get i = some (.own cs) := by simp [Heap.set]
  have hown : Owned ρ H g := ⟨i, old, _, L, hi, hr, rfl⟩
  refine ⟨Map.le_refl _, ⟨?_, ?_, ?_, ?_, ?_⟩, rfl, rfl, rfl, by simp, by simp [Heap.set], ?_, ?_, ?_, fun _ _ _ hx => hx⟩
  · intro j vs hj
    by_cases hj' : j = i
    · subst hj'; rw [hself] at hj; cases hj
    · rw [hgo hj'] at hj
      obtain ⟨b, L', h1, h2, h3⟩ := h.view j vs hj
      refine ⟨b, L', h1, by simpa using h2, fun k c hk => ?_⟩
      obtain ⟨c', h4, h5⟩ := h3 k c hk
      have hb := h.apart i j old _ g off L b L' hi hj (fun e => hj' e.symm) hr h1
      exact ⟨c', by rw [cell_setRow_ne (by rw [add_block]; exact hb)]; exact h4, h5⟩
  · intro j vs hj
    by_cases hj' : j = i
    · subst hj'
      rw [hself] at hj; injection hj with hj; injection hj with hj; subst hj
      exact ⟨g, off, L, hr, arr, e, setRow_heap w g arr0 arr e (0, 0) h0, hL, hl, hc⟩
    · rw [hgo hj'] at hj
      obtain ⟨g', off', L', h1, a, t, h2, h3⟩ := h.own j vs hj
      have hb := h.apart i j old _ g off L _ L' hi hj (fun e => hj' e.symm) hr h1
      exact ⟨g', off', L', h1, a, t, by rw [setRow_other w g g' arr hb]; exact h2, h3⟩
  · intro a b vs o g' off' L' b' L'' ha hb hab hra hrb
    have key : ∀ {k o}, (H.set i cs).get k = some o → ∃ o', H.get k = some o' ∧ (∀ vs, o = .own vs → ∃ vs', o' = .own vs') := by
      intro k o hk
      by_cases hk' : k = i
      · subst hk'; exact ⟨_, hi, fun _ _ => ⟨_, rfl⟩⟩
      · rw [hgo hk'] at hk; exact ⟨o, hk, fun vs e => ⟨vs, e⟩⟩
    obtain ⟨o1, h1, h2⟩ := key ha
    obtain ⟨vs', rfl⟩ := h2 vs rfl
    obtain ⟨o2, h3, _⟩ := key hb
    exact h.apart a b vs' o2 g' off' L' b' L'' h1 h3 hab hra hrb
  · intro j o hj
    by_cases hj' : j = i
    · subst hj'; exact h.lt _ _ hi
    · rw [hgo hj'] at hj; exact h.lt j o hj
  · exact h.fresh
  · intro b hb hn
    exact setRow_other w g b arr (fun e => hn (e ▸ hown))
  · rintro b ⟨j, vs, a, L', h1, h2, rfl⟩
    by_cases hj' : j = i
    · subst hj'; exact .inr ⟨j, old, a, L', hi, h2, rfl⟩
    · rw [hgo hj'] at h1; exact .inr ⟨j, vs, a, L', h1, h2, rfl⟩
  · intro j vs hj
    by_cases hj' : j = i
    · subst hj'; rw [hself] at hj; cases hj
    · rwa [hgo hj'] at hj
/-- An object is given up. -/
def Heap.drop_ (H : Heap) (i : Nat) : Heap := ⟨fun j => if j = i then none else H.get j, H.nxt⟩
theorem rel_drop {ρ : Map} {H : Heap} {w : World} (h : Rel ρ H w) (i : Nat) : Rel ρ (H.drop_ i) w := by
  have hgo : ∀ {j o}, (H.drop_ i).get j = some o → H.get j = some o := by
    intro j o hj
    simp only [Heap.drop_] at hj
    split at hj
    · cases hj
    · exact hj
  exact ⟨fun j cs hj => h.view j cs (hgo hj), fun j cs hj => h.own j cs (hgo hj), fun a b cs o g off L b' L' ha hb => h.apart a b cs o g off L b' L' (hgo ha) (hgo hb), fun j o hj => h.lt j o (hgo hj), h.fresh⟩
theorem next_drop {ρ : Map} {H : Heap} {w : World} (h : Rel ρ H w) (i : Nat) : Next ρ H w ρ (H.drop_ i) w := by
  have hgo : ∀ {j o}, (H.drop_ i).get j = some o → H.get j = some o := by
    intro j o hj
    simp only [Heap.drop_] at hj
    split at hj
    · cases hj
    · exact hj
  exact ⟨Map.le_refl _, rel_drop h i, rfl, rfl, rfl, Nat.le_refl _, Nat.le_refl _, fun _ _ _ => rfl, fun b ⟨j, cs, a, L, h1, h2, h3⟩ => .inr ⟨j, cs, a, L, hgo h1, h2, h3⟩, fun j cs hj => hgo hj, fun _ _ _ hx => hx⟩
theorem moved_eq (H : Heap) (i : Nat) (cs : List Value) : H.moved i cs = (H.drop_ i).push cs := by
  rfl
/-- What an append in place leaves: the new object lies in the old one's block. -/
theorem next_moved_in {ρ : Map} {H : Heap} {w : World} (h : Rel ρ H w) {i : Nat} {old : List Value} (hi : H.get i = some (.own old)) {g off L : Nat} (hr : ρ i = some (⟨g, off, none⟩, L)) (o : Nat)
    (cs : List Value) (arr : Array Value) {arr0 : Array Value} {e : TypeId} (h0 : w.heap[g]? = some (.cells arr0 e (0, 0))) (_hs : arr.size = arr0.size) (hl : o + cs.length ≤ L) (hL : off + L ≤ arr.size)
    (hc : ∀ (j : Nat) (c : Value), cs[j]? = some c → ∃ c', arr[off + o + j]? = some c' ∧ VL ρ c c') :
    Next ρ H w (ρ.at_ H.nxt (⟨g, off + o, none⟩, L - o)) (H.moved i cs) (w.setRow g arr) := by
  have hg : g < w.heap.size := (Array.getElem?_eq_some_iff.1 h0).1
  have hf : ρ H.nxt = none := by
    cases hx : ρ H.nxt with
    | none => rfl
    | some x => have := h.fresh _ _ hx; omega
  have hle : Map.le ρ (ρ.at_ H.nxt (⟨g, off + o, none⟩, L - o)) := Map.le_at hf
  have hro : ∀ {j}, j ≠ H.nxt → ρ.at_ H.nxt (⟨g, off + o, none⟩, L - o) j = ρ j := fun hj => by simp [Map.at_, hj]
  have hself : (H.moved i cs).get H.nxt = some (.own cs) := by simp [Heap.moved]
  have hgo : ∀ {j x}, j ≠ H.nxt → (H.moved i cs).get j = some x → j ≠ i ∧ H.get j = some x := by
    intro j x hj hx
    simp only [Heap.moved, if_neg hj] at hx
    split at hx
    · cases hx
    · rename_i hne; exact ⟨hne, hx⟩
  have hown : Owned ρ H g := ⟨i, old, _, L, hi, hr, rfl⟩
  refine ⟨hle, ⟨?_, ?_, ?_, ?_, ?_⟩, rfl, rfl, rfl, by simp, by simp [Heap.moved], ?_, ?_, ?_, ?_⟩
  · intro j vs hj
    by_cases hj' : j = H.nxt
    · subst hj'; rw [hself] at hj; cases hj
    · obtain ⟨hne, hj⟩ := hgo hj' hj
      obtain ⟨b, L', h1, h2, h3⟩ := h.view j vs hj
      refine ⟨b, L', hle _ _ h1, by simpa using h2, fun k c hk => ?_⟩
      obtain ⟨c', h4, h5⟩ := h3 k c hk
      have hb := h.apart i j old _ g off L b L' hi hj (fun e => hne e.symm) hr h1
      exact ⟨c', by rw [cell_setRow_ne (by rw [add_block]; exact hb)]; exact h4, h5.le hle⟩
  · intro j vs hj
    by_cases hj' : j = H.nxt
    · subst hj'
      rw [hself] at hj; injection hj with hj; injection hj with hj; subst hj
      refine ⟨g, off + o, L - o, Map.at_self _ _ _, arr, e, setRow_heap w g arr0 arr e (0, 0) h0, by omega, by omega, fun k c hk => ?_⟩
      obtain ⟨c', h4, h5⟩ := hc k c hk
      exact ⟨c', h4, h5.le hle⟩
    · obtain ⟨hne, hj⟩ := hgo hj' hj
      obtain ⟨g', off', L', h1, a, t, h2, h3, h3', h4⟩ := h.own j vs hj
      have hb := h.apart i j old _ g off L _ L' hi hj (fun e => hne e.symm) hr h1
      refine ⟨g', off', L', hle _ _ h1, a, t, by rw [setRow_other w g g' arr hb]; exact h2, h3, h3', fun k c hk => ?_⟩
      obtain ⟨c', h5, h6⟩ := h4 k c hk
      exact ⟨c', h5, h6.le hle⟩
  · intro a b vs x g' off' L' b' L'' ha hb hab hra hrb
    by_cases ha' : a = H.nxt
    · subst ha'
      rw [Map.at_self] at hra
      injection hra with hra; injection hra with hra _; injection hra with hra _; subst hra
      have hb' : b ≠ H.nxt := fun e => hab e.symm
      obtain ⟨hne, hb⟩ := hgo hb' hb
      rw [hro hb'] at hrb
      exact h.apart i b old x g off L b' L'' hi hb (fun e => hne e.symm) hr hrb
    · obtain ⟨hne, ha⟩ := hgo ha' ha
      rw [hro ha'] at hra
      by_cases hb' : b = H.nxt
      · subst hb'
        rw [Map.at_self] at hrb
        injection hrb with hrb; injection hrb with hrb _; subst hrb
        have hq := h.apart a i vs _ g' off' L' ⟨g, off, none⟩ L ha hi hne hra hr
        exact hq
      · obtain ⟨_, hb⟩ := hgo hb' hb
        rw [hro hb'] at hrb
        exact h.apart a b vs x g' off' L' b' L'' ha hb hab hra hrb
  · intro j x hj
    by_cases hj' : j = H.nxt
    · subst hj'; simp [Heap.moved]
    · obtain ⟨_, hj⟩ := hgo hj' hj
      have := h.lt j x hj
      simp [Heap.moved]; omega
  · intro j x hj
    by_cases hj' : j = H.nxt
    · subst hj'; simp [Heap.moved]
    · rw [hro hj'] at hj
      have := h.fresh j x hj
      simp [Heap.moved]; omega
  · intro b hb hn
    exact setRow_other w g b arr (fun e => hn (e ▸ hown))
  · rintro b ⟨j, vs, a, L', h1, h2, rfl⟩
    by_cases hj' : j = H.nxt
    · subst hj'
      rw [Map.at_self] at h2
      injection h2 with h2; injection h2 with h2 _; subst h2
      exact .inr hown
    · obtain ⟨_, h1⟩ := hgo hj' h1
      rw [hro hj'] at h2
      exact .inr ⟨j, vs, a, L', h1, h2, rfl⟩
  · intro j vs hj
    by_cases hj' : j = H.nxt
    · subst hj'; rw [hself] at hj; cases hj
    · exact (hgo hj' hj).2
  · intro j x hj hx
    rwa [hro (by omega)] at hx
end Go.Proofs.Ytkadelndmaegdaa.AX
