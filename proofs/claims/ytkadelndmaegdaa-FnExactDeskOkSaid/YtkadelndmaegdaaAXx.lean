/- What a value reads as, type by type: read memory, own memory, marks. No condition beyond each law's own; nothing of the program. -/
import Derived.Test.YtkadelndmaegdaaAXwa
namespace Go.Proofs.Ytkadelndmaegdaa.AX
open Go
set_option linter.unusedVariables false

/-- Nothing but what lies in F has turned. -/
structure Chg (F : List Nat) (H H' : Heap) : Prop where
  nxt : H.nxt ≤ H'.nxt
  get : ∀ i, i < H.nxt → i ∉ F → H'.get i = H.get i
theorem Chg.refl (F : List Nat) (H : Heap) : Chg F H H := ⟨Nat.le_refl _, fun _ _ _ => rfl⟩
theorem Keep.chg {F : List Nat} {H H' : Heap} (h : Keep H H') : Chg F H H' := ⟨h.nxt, fun i hi _ => h.get i hi⟩
theorem Chg.trans {F : List Nat} {H H1 H2 : Heap} (h : Chg F H H1) (k : Chg F H1 H2) : Chg F H H2 := ⟨Nat.le_trans h.nxt k.nxt, fun i hi hF => (k.get i (Nat.lt_of_lt_of_le hi h.nxt) hF).trans (h.get i hi hF)⟩
theorem Chg.mono {F F' : List Nat} {H H' : Heap} (h : Chg F H H') (hs : ∀ i ∈ F, i ∈ F') : Chg F' H H' := ⟨h.nxt, fun i hi hF => h.get i hi (fun hm => hF (hs i hm))⟩
theorem Chg.set {F : List Nat} {H : Heap} {p : Nat} {cs : List Value} (hp : p ∈ F) : Chg F H (H.set p cs) := ⟨Nat.le_refl _, fun i _ hF => by rw [Zbi, if_neg (fun e => by subst e; exact hF hp)]⟩
theorem Chg.keep {F : List Nat} {H H1 H2 : Heap} (h : Chg F H1 H2) (k : Keep H H1) (hF : ∀ i ∈ F, H.nxt ≤ i) : Keep H H2 := ⟨Nat.le_trans k.nxt h.nxt, fun i hi => (h.get i (Nat.lt_of_lt_of_le hi k.nxt) (fun hm => by have := hF i hm; omega)).trans (k.get i hi)⟩
/-- A part of a block, between what lies ahead of it and what behind. -/
def mid (pre A post : List Value) : List Value := pre ++ A ++ post
/-- How data lies in cells. -/
structure Rep (α : Type) where
  sz : Nat
  rd : Heap → List Value → α → Prop
  own : Heap → List Value → α → List Nat → Prop
  tot : α → Nat
  fit : α → Prop
  mar : α → Nat → α × Nat
  val : List Value → Value
  valc : ∀ {H cs a}, rd H cs a → vcells (val cs) = cs ∧ noTup (val cs) = true
  len : ∀ {H cs a}, rd H cs a → cs.length = sz
  rdk : ∀ {H H' cs a}, rd H cs a → Keep H H' → rd H' cs a
  ownrd : ∀ {H cs a F}, own H cs a F → rd H cs a
  ownlt : ∀ {H cs a F}, own H cs a F → ∀ i ∈ F, i < H.nxt
  ownk : ∀ {H H' cs a F}, own H cs a F → H.nxt ≤ H'.nxt → (∀ i ∈ F, H'.get i = H.get i) → own H' cs a F
def one1 (cs : List Value) : Value := match cs with | [v] => v | _ => undef
def leafRep {α : Type} (f : α → Value) (m : Nat → α) (hf : ∀ a, oneCell (f a) = true) : Rep α where
  sz := 1
  rd := fun _ cs a => cs = [f a]
  own := fun _ cs a F => cs = [f a] ∧ F = []
  tot := fun _ => 0
  fit := fun _ => True
  mar := fun _ k => (m k, k + 1)
  val := one1
  valc := fun {H cs a} h => by
    subst h
    have := hf a
    simp only [one1]
    cases hv : f a <;> rw [hv] at this <;> first | exact ⟨rfl, rfl⟩ | cases this | exact ⟨rfl, this⟩
  len := fun h => by rw [h]; rfl
  rdk := fun h _ => h
  ownrd := fun h => h.1
  ownlt := fun h i hi => by rw [h.2] at hi; cases hi
  ownk := fun h _ _ => h
theorem oneCell_int {k : IntKind} (a : Int) : oneCell (.int k a) = true := rfl
theorem oneCell_bool (a : Bool) : oneCell (.bool a) = true := rfl
abbrev rInt : Rep Int := leafRep (.int .i64) (fun k => (k : Int)) oneCell_int
abbrev rByte : Rep Int := leafRep (.int .u8) (fun k => ((k % 256 : Nat) : Int)) oneCell_int
abbrev rBool : Rep Bool := leafRep .bool (fun k => decide (k % 3 = 0)) oneCell_bool
def mkL {α : Type} (m : α → Nat → α × Nat) : List α → Nat → List α × Nat
  | [], k => ([], k)
  | x :: xs, k => ((m x k).1 :: (mkL m xs (m x k).2).1, (mkL m xs (m x k).2).2)
/-- Rows, each of them own memory, each with its footprint. -/
def ownRows {α : Type} (r : Rep α) (H : Heap) : List (List Value) → List α → List (List Nat) → Prop
  | [], [], [] => True
  | c :: cs, x :: xs, F :: Fs => r.own H c x F ∧ ownRows r H cs xs Fs
  | _, _, _ => False
def rdRows {α : Type} (r : Rep α) (H : Heap) (rows : List (List Value)) (xs : List α) : Prop := All2 (fun c x => r.rd H c x) rows xs
section
variable {α β : Type} {r : Rep α} {H H' : Heap}
theorem rdRows.keep {rows : List (List Value)} {xs : List α} (h : rdRows r H rows xs) (k : Keep H H') : rdRows r H' rows xs := h.imp fun _ _ h => r.rdk h k
theorem rdRows.sz {rows : List (List Value)} {xs : List α} (h : rdRows r H rows xs) : ∀ c ∈ rows, c.length = r.sz := by
  intro c hc
  obtain ⟨i, hi⟩ := List.getElem?_of_mem hc
  obtain ⟨x, _, h1⟩ := h.get i c hi
  exact r.len h1
theorem ownRows.rd : ∀ {rows : List (List Value)} {xs : List α} {Fs : List (List Nat)}, ownRows r H rows xs Fs → rdRows r H rows xs
  | [], [], [], _ => .nil
  | [], [], _ :: _, h => h.elim
  | [], _ :: _, _, h => h.elim
  | _ :: _, [], _, h => h.elim
  | _ :: _, _ :: _, [], h => h.elim
  | c :: cs, x :: xs, F :: Fs, h => .cons (r.ownrd h.1) (ownRows.rd h.2)
theorem ownRows.lt : ∀ {rows : List (List Value)} {xs : List α} {Fs : List (List Nat)}, ownRows r H rows xs Fs → ∀ i ∈ Fs.flatten, i < H.nxt
  | [], [], [], _, i, hi => by cases hi
  | [], [], _ :: _, h, _, _ => h.elim
  | [], _ :: _, _, h, _, _ => h.elim
  | _ :: _, [], _, h, _, _ => h.elim
  | _ :: _, _ :: _, [], h, _, _ => h.elim
  | c :: cs, x :: xs, F :: Fs, h, i, hi => by
    rw [List.flatten_cons] at hi
    rcases List.mem_append.1 hi with hi | hi
    · exact r.ownlt h.1 i hi
    · exact ownRows.lt h.2 i hi
theorem ownRows.keep : ∀ {rows : List (List Value)} {xs : List α} {Fs : List (List Nat)}, ownRows r H rows xs Fs → H.nxt ≤ H'.nxt → (∀ i ∈ Fs.flatten, H'.get i = H.get i) → ownRows r H' rows xs Fs
  | [], [], [], _, _, _ => trivial
  | [], [], _ :: _, h, _, _ => h.elim
  | [], _ :: _, _, h, _, _ => h.elim
  | _ :: _, [], _, h, _, _ => h.elim
  | _ :: _, _ :: _, [], h, _, _ => h.elim
  | c :: cs, x :: xs, F :: Fs, h, hn, hg => by
    rw [List.flatten_cons] at hg
    exact ⟨r.ownk h.1 hn (fun i hi => hg i (List.mem_append_left _ hi)), ownRows.keep h.2 hn (fun i hi => hg i (List.mem_append_right _ hi))⟩
theorem ownRows.len : ∀ {rows : List (List Value)} {xs : List α} {Fs : List (List Nat)}, ownRows r H rows xs Fs → rows.length = xs.length ∧ Fs.length = xs.length
  | [], [], [], _ => ⟨rfl, rfl⟩
  | [], [], _ :: _, h => h.elim
  | [], _ :: _, _, h => h.elim
  | _ :: _, [], _, h => h.elim
  | _ :: _, _ :: _, [], h => h.elim
  | c :: cs, x :: xs, F :: Fs, h => by
    have := ownRows.len h.2
    exact ⟨by simp [this.1], by simp [this.2]⟩
end
/-- A slice. -/
def rSlc {α : Type} (r : Rep α) : Rep (List α) where
  sz := 1
  rd := fun H cs xs => ∃ v rows, cs = [v] ∧ Sl H v r.sz xs.length rows.flatten ∧ rdRows r H rows xs
  own := fun H cs xs F => (cs = [.slice none 0 0] ∧ xs = [] ∧ F = []) ∨
    ∃ p o pre rows post Fs, cs = [.slice (some ⟨p, o, none⟩) xs.length r.sz] ∧ p < H.nxt ∧ H.get p = some (.own (mid pre rows.flatten post)) ∧ pre.length = o ∧ ownRows r H rows xs Fs ∧ F = p :: Fs.flatten
  tot := fun xs => xs.length + (xs.map r.tot).sum
  fit := fun xs => xs.length ≤ 9223372036854775807 ∧ ∀ x ∈ xs, r.fit x
  mar := mkL r.mar
  val := one1
  valc := fun ⟨v, rows, h1, h2, _⟩ => by
    subst h1
    exact ⟨h2.cells_, h2.noTup_⟩
  len := fun ⟨v, _, h, _⟩ => by rw [h]; rfl
  rdk := fun ⟨v, rows, h1, h2, h3⟩ k => ⟨v, rows, h1, h2.keep k, h3.keep k⟩
  ownrd := fun {H cs xs F} h => by
    rcases h with ⟨rfl, rfl, _⟩ | ⟨p, o, pre, rows, post, Fs, rfl, hp, hg, ho, hr, _⟩
    · exact ⟨_, [], rfl, ⟨by simp, .inl ⟨rfl, rfl⟩⟩, .nil⟩
    · have h1 := hr.rd
      refine ⟨_, rows, rfl, ⟨?_, .inr ⟨p, o, rfl, hp, fun j c hj => ⟨_, hg, ?_⟩⟩⟩, h1⟩
      · rw [flatten_length h1.sz, hr.len.1]
      · have hjl := (List.getElem?_eq_some_iff.1 hj).1
        simp only [Obj.cells, mid]
        rw [List.getElem?_append_left (by rw [List.length_append]; omega), List.getElem?_append_right (by omega), ho, Nat.add_sub_cancel_left]
        exact hj
  ownlt := fun {H cs xs F} h => by
    rcases h with ⟨_, _, rfl⟩ | ⟨p, o, pre, rows, post, Fs, _, hp, _, _, hr, rfl⟩
    · intro i hi; cases hi
    · intro i hi
      rcases List.mem_cons.1 hi with rfl | hi
      · exact hp
      · exact hr.lt i hi
  ownk := fun {H H' cs xs F} h hn hg => by
    rcases h with h | ⟨p, o, pre, rows, post, Fs, h1, hp, h2, ho, hr, rfl⟩
    · exact .inl h
    · exact .inr ⟨p, o, pre, rows, post, Fs, h1, Nat.lt_of_lt_of_le hp hn, by rw [hg p (by simp)]; exact h2, ho, hr.keep hn (fun i hi => hg i (by simp [hi])), rfl⟩
/-- Two of them, one behind the other. -/
def rPair {α β : Type} (r : Rep α) (s : Rep β) : Rep (α × β) where
  sz := r.sz + s.sz
  rd := fun H cs x => ∃ c d, cs = c ++ d ∧ r.rd H c x.1 ∧ s.rd H d x.2
  own := fun H cs x F => ∃ c d E G, cs = c ++ d ∧ r.own H c x.1 E ∧ s.own H d x.2 G ∧ F = E ++ G
  tot := fun x => r.tot x.1 + s.tot x.2
  fit := fun x => r.fit x.1 ∧ s.fit x.2
  val := fun cs => .agg cs.toArray
  valc := fun _ => ⟨by simp [vcells], rfl⟩
  mar := fun x k => (((r.mar x.1 k).1, (s.mar x.2 (r.mar x.1 k).2).1), (s.mar x.2 (r.mar x.1 k).2).2)
  len := fun ⟨c, d, h, h1, h2⟩ => by rw [h, List.length_append, r.len h1, s.len h2]
  rdk := fun ⟨c, d, h, h1, h2⟩ k => ⟨c, d, h, r.rdk h1 k, s.rdk h2 k⟩
  ownrd := fun ⟨c, d, E, G, h, h1, h2, _⟩ => ⟨c, d, h, r.ownrd h1, s.ownrd h2⟩
  ownlt := fun ⟨c, d, E, G, h, h1, h2, hF⟩ i hi => by
    rw [hF] at hi
    rcases List.mem_append.1 hi with hi | hi
    · exact r.ownlt h1 i hi
    · exact s.ownlt h2 i hi
  ownk := fun ⟨c, d, E, G, h, h1, h2, hF⟩ hn hg => by
    subst hF
    exact ⟨c, d, E, G, h, r.ownk h1 hn (fun i hi => hg i (List.mem_append_left _ hi)), s.ownk h2 hn (fun i hi => hg i (List.mem_append_right _ hi)), rfl⟩
theorem Rep.ownKeep {α : Type} (r : Rep α) {H H' : Heap} {cs : List Value} {a : α} {F : List Nat} (h : r.own H cs a F) (k : Keep H H') : r.own H' cs a F := r.ownk h k.nxt (fun i hi => k.get i (r.ownlt h i hi))
theorem Rep.ownChg {α : Type} (r : Rep α) {H H' : Heap} {cs : List Value} {a : α} {F G : List Nat} (h : r.own H cs a F) (k : Chg G H H') (hd : ∀ i ∈ F, i ∉ G) : r.own H' cs a F := r.ownk h k.nxt (fun i hi => k.get i (r.ownlt h i hi) (hd i hi))
/-- What is new, and its own alone. -/
def Fresh (H H' : Heap) (F : List Nat) : Prop := F.Nodup ∧ ∀ i ∈ F, H.nxt ≤ i ∧ i < H'.nxt
/-! ### What the laws' helpers do -/
def IsTo {α : Type} (P : Program) (r : Rep α) (f : FuncId) : Prop := ∀ (H : Heap) (cs : List Value) (a : α), r.rd H cs a → r.tot a ≤ 1048576 →
  Run P f [r.val cs] H fun w H' => Keep H H' ∧ ∃ ds F, w = r.val ds ∧ r.own H' ds a F ∧ Fresh H H' F
def IsEq {α : Type} (P : Program) (r : Rep α) (f : FuncId) : Prop := ∀ (H : Heap) (cs ds : List Value) (a : α), r.rd H cs a → r.rd H ds a → r.tot a ≤ 4611686018427387904 → Run P f [r.val cs, r.val ds] H fun b H' => Keep H H' ∧ b = .bool true
def IsMark {α : Type} (P : Program) (r : Rep α) (m : α → Nat → α × Nat) (f : FuncId) : Prop := ∀ (H : Heap) (cs : List Value) (a : α) (F : List Nat) (k : Nat), r.own H cs a F → F.Nodup → k + 99 * r.tot a ≤ 4611686018427387904 →
  Run P f [r.val cs, .int .i64 (k : Int)] H fun w H' => Chg F H H' ∧ r.own H' cs (m a k).1 F ∧ w = .int .i64 ((m a k).2 : Int)
def IsHeld {α : Type} (P : Program) (r : Rep α) (m : α → Nat → α × Nat) (f : FuncId) : Prop := ∀ (H : Heap) (cs : List Value) (a : α) (k : Nat), r.rd H cs (m a k).1 → k + 99 * r.tot a ≤ 4611686018427387904 →
  Run P f [r.val cs, .int .i64 (k : Int)] H fun w H' => Keep H H' ∧ w = .int .i64 ((m a k).2 : Int)
def IsSz {α : Type} (P : Program) (r : Rep α) (f : FuncId) : Prop := ∀ (H : Heap) (cs : List Value) (a : α) (m : Nat), r.rd H cs a → r.fit a → m ≤ 1048576 → Run P f [r.val cs, .int .i64 (m : Int)] H fun w H' => Keep H H' ∧ (w = .int .i64 (-1) ∨ ∃ m' : Nat, w = .int .i64 (m' : Int) ∧ m' + r.tot a ≤ m)
end Go.Proofs.Ytkadelndmaegdaa.AX
