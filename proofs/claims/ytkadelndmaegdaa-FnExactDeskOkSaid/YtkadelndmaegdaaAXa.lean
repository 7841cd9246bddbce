/- An executor over an abstract heap, and how its values and its memory stand to the model's: definitions and small laws. No condition; nothing of the program. -/
import Derived.Tactics
import Derived.Orders
import Derived.Below
namespace Go.Proofs.Ytkadelndmaegdaa.AX

/-- What an object of the abstract heap is: memory that is only read, or memory of the run's own. -/
inductive Obj where
  | view (cells : List Value)
  | own (cells : List Value)
structure Heap where
  get : Nat → Option Obj
  nxt : Nat
def Obj.cells : Obj → List Value
  | .view cs => cs
  | .own cs => cs
def Heap.push (H : Heap) (cs : List Value) : Heap := ⟨fun i => if i = H.nxt then some (.own cs) else H.get i, H.nxt + 1⟩
def Heap.set (H : Heap) (i : Nat) (cs : List Value) : Heap := ⟨fun j => if j = i then some (.own cs) else H.get j, H.nxt⟩
/-- What lay there is given up; what it held, and more, lies in a new object. -/
def Heap.moved (H : Heap) (i : Nat) (cs : List Value) : Heap := ⟨fun j => if j = H.nxt then some (.own cs) else if j = i then none else H.get j, H.nxt + 1⟩

/-- Where an abstract object lies: its first cell's address, and how many cells are there for it. -/
abbrev Map := Nat → Option (Addr × Nat)
def Map.le (ρ ρ' : Map) : Prop := ∀ i x, ρ i = some x → ρ' i = some x
theorem Map.le_refl (ρ : Map) : Map.le ρ ρ := fun _ _ h => h
theorem Map.le_trans {a b c : Map} (h : Map.le a b) (k : Map.le b c) : Map.le a c := fun i x hx => k i x (h i x hx)
def Map.at_ (ρ : Map) (i : Nat) (x : Addr × Nat) : Map := fun j => if j = i then some x else ρ j
theorem Map.le_at {ρ : Map} {i : Nat} {x : Addr × Nat} (h : ρ i = none) : Map.le ρ (ρ.at_ i x) := by
  intro j y hy
  unfold Map.at_
  split
  · rename_i e; subst e; rw [h] at hy; cases hy
  · exact hy
theorem Map.at_self (ρ : Map) (i : Nat) (x : Addr × Nat) : ρ.at_ i x i = some x := by simp [Map.at_]

theorem add_add (a : Addr) (m n : Nat) : (a.add m).add n = a.add (m + n) := by
  unfold Addr.add
  by_cases hm : m = 0
  · subst hm; simp
  · by_cases hn : n = 0
    · subst hn; simp [hm]
    · simp [hm, hn, Nat.add_assoc]
theorem add_own (g o n : Nat) : (⟨g, o, none⟩ : Addr).add n = ⟨g, o + n, none⟩ := by
  unfold Addr.add
  split
  · rename_i h; subst h; rfl
  · rfl
theorem add_block (a : Addr) (n : Nat) : (a.add n).block = a.block := by
  unfold Addr.add; split <;> rfl

/-- A NaN of a float kind: it is not equal to itself. -/
def nanB (k : FloatKind) (b : Nat) : Bool := k.format.order b b != some .eq
/-- Values without an address. -/
def flatB : Value → Bool
  | .bool _ | .int .. | .float .. | .string _ | .pointer none | .slice none 0 0 | .nilFunc | .nilIface | .map none => true
  | .func (.func _) f c => f.isEmpty && c.isEmpty
  | _ => false
/-- How one cell's abstract value stands to the model's. A slice's third number is, abstractly, its elements' size. -/
inductive VL (ρ : Map) : Value → Value → Prop
  | flat {v : Value} : flatB v = true → VL ρ v v
  | nan {k : FloatKind} {a b : Nat} : nanB k a = true → nanB k b = true → VL ρ (.float k a) (.float k b)
  | ptr {i o : Nat} {b : Addr} {L : Nat} : ρ i = some (b, L) → VL ρ (.pointer (some ⟨i, o, none⟩)) (.pointer (some (b.add o)))
  | slc {i o n sz c : Nat} {b : Addr} {L : Nat} : ρ i = some (b, L) → n ≤ c → o + c * sz ≤ L → VL ρ (.slice (some ⟨i, o, none⟩) n sz) (.slice (some (b.add o)) n c)
  | slc0 {i o sz : Nat} {a b : Addr} {L : Nat} : ρ i = some (b, L) → VL ρ (.slice (some ⟨i, o, none⟩) 0 sz) (.slice (some a) 0 0)
theorem VL.le {ρ ρ' : Map} (h : Map.le ρ ρ') {a c : Value} (v : VL ρ a c) : VL ρ' a c := by
  cases v with
  | flat h1 => exact .flat h1
  | nan h1 h2 => exact .nan h1 h2
  | ptr h1 => exact .ptr (h _ _ h1)
  | slc h1 h2 h3 => exact .slc (h _ _ h1) h2 h3
  | slc0 h1 => exact .slc0 (h _ _ h1)
/-- Two lists, member by member. -/
inductive All2 {α β : Type} (R : α → β → Prop) : List α → List β → Prop
  | nil : All2 R [] []
  | cons {a : α} {b : β} {as : List α} {bs : List β} : R a b → All2 R as bs → All2 R (a :: as) (b :: bs)
namespace All2
variable {α β : Type} {R S : α → β → Prop} {as as' : List α} {bs bs' : List β}
theorem length (h : All2 R as bs) : as.length = bs.length := by
  induction h with
  | nil => rfl
  | cons _ _ ih => simp [ih]
theorem imp (hi : ∀ a b, R a b → S a b) (h : All2 R as bs) : All2 S as bs := by
  induction h with
  | nil => exact .nil
  | cons h1 _ ih => exact .cons (hi _ _ h1) ih
theorem get (h : All2 R as bs) : ∀ (i : Nat) (a : α), as[i]? = some a → ∃ b, bs[i]? = some b ∧ R a b := by
  induction h with
  | nil => intro i a h; simp at h
  | cons h1 _ ih =>
    intro i a h
    cases i with
    | zero => simp at h; subst h; exact ⟨_, by simp, h1⟩
    | succ i => simp at h; obtain ⟨b, hb, hr⟩ := ih i a h; exact ⟨b, by simpa using hb, hr⟩
theorem of_get (hl : as.length = bs.length) (h : ∀ (i : Nat) (a : α) (b : β), as[i]? = some a → bs[i]? = some b → R a b) : All2 R as bs := by
  induction as generalizing bs with
  | nil => cases bs with
    | nil => exact .nil
    | cons b bs => simp at hl
  | cons a as ih => cases bs with
    | nil => simp at hl
    | cons b bs => exact .cons (h 0 a b (by simp) (by simp)) (ih (by simpa using hl) (fun i x y hx hy => h (i + 1) x y (by simpa using hx) (by simpa using hy)))
theorem append (h : All2 R as bs) (h' : All2 R as' bs') : All2 R (as ++ as') (bs ++ bs') := by
  induction h with
  | nil => exact h'
  | cons h1 _ ih => exact .cons h1 ih
theorem take (h : All2 R as bs) (n : Nat) : All2 R (as.take n) (bs.take n) := by
  induction h generalizing n with
  | nil => simp; exact .nil
  | cons h1 _ ih => cases n with
    | zero => simp; exact .nil
    | succ n => simp; exact .cons h1 (ih n)
theorem drop (h : All2 R as bs) (n : Nat) : All2 R (as.drop n) (bs.drop n) := by
  induction h generalizing n with
  | nil => simp; exact .nil
  | cons h1 h2 ih => cases n with
    | zero => simp; exact .cons h1 h2
    | succ n => simp; exact ih n
theorem replicate {a : α} {b : β} (h : R a b) (n : Nat) : All2 R (List.replicate n a) (List.replicate n b) := by
  induction n with
  | zero => exact .nil
  | succ n ih => exact .cons h ih
theorem map_same {γ : Type} {f : γ → α} {g : γ → β} (l : List γ) (h : ∀ x ∈ l, R (f x) (g x)) : All2 R (l.map f) (l.map g) := by
  induction l with
  | nil => exact .nil
  | cons x l ih => exact .cons (h x (by simp)) (ih (fun y hy => h y (by simp [hy])))
end All2
/-- A cell's value, or a struct's cells. -/
inductive VA (ρ : Map) : Value → Value → Prop
  | leaf {a c : Value} : VL ρ a c → VA ρ a c
  | agg {xs ys : Array Value} : All2 (VL ρ) xs.toList ys.toList → VA ρ (.agg xs) (.agg ys)
/-- The same, or several of them. -/
inductive VR (ρ : Map) : Value → Value → Prop
  | one {a c : Value} : VA ρ a c → VR ρ a c
  | tup {xs ys : Array Value} : All2 (VA ρ) xs.toList ys.toList → VR ρ (.tuple xs) (.tuple ys)
  | fn {f : FuncId} {xs ys : Array Value} : All2 (VL ρ) xs.toList ys.toList → VR ρ (.func (.func f) #[] xs) (.func (.func f) #[] ys)
theorem VA.le {ρ ρ' : Map} (h : Map.le ρ ρ') {a c : Value} (v : VA ρ a c) : VA ρ' a c := by
  cases v with
  | leaf h1 => exact .leaf (h1.le h)
  | agg h1 => exact .agg (h1.imp fun _ _ => VL.le h)
theorem VR.le {ρ ρ' : Map} (h : Map.le ρ ρ') {a c : Value} (v : VR ρ a c) : VR ρ' a c := by
  cases v with
  | one h1 => exact .one (h1.le h)
  | tup h1 => exact .tup (h1.imp fun _ _ => VA.le h)
  | fn h1 => exact .fn (h1.imp fun _ _ => VL.le h)
theorem VL.flat_eq {ρ : Map} {a c : Value} (h : VL ρ a c) (hf : flatB a = true) (hn : ∀ k b, a = .float k b → nanB k b = false) : c = a := by
  cases h with
  | flat _ => rfl
  | nan h1 h2 => have := hn _ _ rfl; rw [this] at h1; cases h1
  | ptr _ => simp [flatB] at hf
  | slc _ _ _ => simp [flatB] at hf
  | slc0 _ => simp [flatB] at hf

/-- How the abstract heap stands to the world. -/
structure Rel (ρ : Map) (H : Heap) (w : World) : Prop where
  view : ∀ i cs, H.get i = some (.view cs) → ∃ b L, ρ i = some (b, L) ∧ b.block < w.heap.size ∧ ∀ j c, cs[j]? = some c → ∃ c', w.cell? (b.add j) = some c' ∧ VL ρ c c'
  own : ∀ i cs, H.get i = some (.own cs) → ∃ g off L, ρ i = some (⟨g, off, none⟩, L) ∧ ∃ arr e, w.heap[g]? = some (.cells arr e (0, 0)) ∧ off + L ≤ arr.size ∧ cs.length ≤ L ∧ ∀ j c, cs[j]? = some c → ∃ c', arr[off + j]? = some c' ∧ VL ρ c c'
  apart : ∀ i j cs o g off L b L', H.get i = some (.own cs) → H.get j = some o → i ≠ j → ρ i = some (⟨g, off, none⟩, L) → ρ j = some (b, L') → b.block ≠ g
  lt : ∀ i o, H.get i = some o → i < H.nxt
  fresh : ∀ i x, ρ i = some x → i < H.nxt

/-- Block b is one that an own object of H lies in. -/
def Owned (ρ : Map) (H : Heap) (b : Nat) : Prop := ∃ i cs a L, H.get i = some (.own cs) ∧ ρ i = some (a, L) ∧ a.block = b
/-- From one state to a later one: what is known stays known, nothing but own memory is written, what is owned is new or was owned. -/
structure Next (ρ : Map) (H : Heap) (w : World) (ρ' : Map) (H' : Heap) (w' : World) : Prop where
  le : Map.le ρ ρ'
  rel : Rel ρ' H' w'
  os : w'.os = w.os
  tape : w'.tape = w.tape
  output : w'.output = w.output
  size : w.heap.size ≤ w'.heap.size
  nxt : H.nxt ≤ H'.nxt
  frame : ∀ b, b < w.heap.size → ¬ Owned ρ H b → w'.heap[b]? = w.heap[b]?
  from_ : ∀ b, Owned ρ' H' b → w.heap.size ≤ b ∨ Owned ρ H b
  views : ∀ i cs, H'.get i = some (.view cs) → H.get i = some (.view cs)
  old : ∀ i x, i < H.nxt → ρ' i = some x → ρ i = some x
theorem Next.refl {ρ : Map} {H : Heap} {w : World} (h : Rel ρ H w) : Next ρ H w ρ H w :=
  ⟨Map.le_refl _, h, rfl, rfl, rfl, Nat.le_refl _, Nat.le_refl _, fun _ _ _ => rfl, fun _ h => .inr h, fun _ _ h => h, fun _ _ _ h => h⟩
theorem Next.trans {ρ ρ1 ρ2 : Map} {H H1 H2 : Heap} {w w1 w2 : World} (h : Next ρ H w ρ1 H1 w1) (k : Next ρ1 H1 w1 ρ2 H2 w2) : Next ρ H w ρ2 H2 w2 where
  le := Map.le_trans h.le k.le
  rel := k.rel
  os := k.os.trans h.os
  tape := k.tape.trans h.tape
  output := k.output.trans h.output
  size := Nat.le_trans h.size k.size
  nxt := Nat.le_trans h.nxt k.nxt
  frame := fun b hb hn => by
    rw [k.frame b (Nat.lt_of_lt_of_le hb h.size) (fun ho => ?_), h.frame b hb hn]
    rcases h.from_ b ho with h1 | h1
    · omega
    · exact hn h1
  from_ := fun b ho => by
    rcases k.from_ b ho with h1 | h1
    · exact .inl (Nat.le_trans h.size h1)
    · exact h.from_ b h1
  views := fun i cs hi => h.views i cs (k.views i cs hi)
  old := fun i x hi hx => h.old i x hi (k.old i x (Nat.lt_of_lt_of_le hi h.nxt) hx)
/-- A draw turns nothing. -/
theorem Rel.drawn {ρ : Map} {H : Heap} {w w' : World} (h : Rel ρ H w) (e : w'.heap = w.heap) : Rel ρ H w' := by
  refine ⟨fun i cs hi => ?_, fun i cs hi => ?_, h.apart, h.lt, h.fresh⟩
  · obtain ⟨b, L, h1, h2, h3⟩ := h.view i cs hi
    exact ⟨b, L, h1, by rw [e]; exact h2, fun j c hj => by obtain ⟨c', h4, h5⟩ := h3 j c hj; exact ⟨c', by simpa [World.cell?, e] using h4, h5⟩⟩
  · obtain ⟨g, off, L, h1, arr, t, h2, h3⟩ := h.own i cs hi
    exact ⟨g, off, L, h1, arr, t, by rw [e]; exact h2, h3⟩
theorem Next.drawn {ρ : Map} {H : Heap} {w w' : World} (h : Rel ρ H w) (e : w'.heap = w.heap) (ho : w'.os = w.os) (ht : w'.tape = w.tape) (hp : w'.output = w.output) : Next ρ H w ρ H w' :=
  ⟨Map.le_refl _, h.drawn e, ho, ht, hp, by rw [e]; exact Nat.le_refl _, Nat.le_refl _, fun _ _ _ => by rw [e], fun _ h => .inr h, fun _ _ h => h, fun _ _ _ h => h⟩
end Go.Proofs.Ytkadelndmaegdaa.AX
