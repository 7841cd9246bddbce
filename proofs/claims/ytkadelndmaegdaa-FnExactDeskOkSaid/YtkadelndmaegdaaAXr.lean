/- From what a row's arguments read as, to an abstract heap of views. No condition beyond each law's own; nothing of the program. -/
import Derived.Test.YtkadelndmaegdaaAXq
import Derived.OpenShut
import Derived.ChangeOld
import Derived.Below
import Derived.Carry
namespace Go.Proofs.Ytkadelndmaegdaa.AX
open Go Go.RowKit Go.WideShapes

/-- What was there stands as it stood. -/
structure Keep (H H' : Heap) : Prop where
  nxt : H.nxt ≤ H'.nxt
  get : ∀ i, i < H.nxt → H'.get i = H.get i
theorem Keep.refl (H : Heap) : Keep H H := ⟨Nat.le_refl _, fun _ _ => rfl⟩
theorem Keep.trans {H H1 H2 : Heap} (h : Keep H H1) (k : Keep H1 H2) : Keep H H2 := ⟨Nat.le_trans h.nxt k.nxt, fun i hi => (k.get i (Nat.lt_of_lt_of_le hi h.nxt)).trans (h.get i hi)⟩
theorem Keep.push (H : Heap) (cs : List Value) : Keep H (H.push cs) := ⟨Nat.le_succ _, fun i hi => by rw [push_get, if_neg (by omega)]⟩
/-- A slice of n elements of sz cells each, and what its cells hold. -/
def Sl (H : Heap) (v : Value) (sz n : Nat) (cs : List Value) : Prop :=
  cs.length = n * sz ∧ ((v = .slice none 0 0 ∧ n = 0) ∨ ∃ i o, v = .slice (some ⟨i, o, none⟩) n sz ∧ i < H.nxt ∧ ∀ j c, cs[j]? = some c → ∃ ob, H.get i = some ob ∧ ob.cells[o + j]? = some c)
theorem Sl.keep {H H' : Heap} {v : Value} {sz n : Nat} {cs : List Value} (h : Sl H v sz n cs) (k : Keep H H') : Sl H' v sz n cs := by
  obtain ⟨h1, h2⟩ := h
  refine ⟨h1, ?_⟩
  rcases h2 with h2 | ⟨i, o, h2, h3, h4⟩
  · exact .inl h2
  · refine .inr ⟨i, o, h2, Nat.lt_of_lt_of_le h3 k.nxt, fun j c hj => ?_⟩
    obtain ⟨ob, h5, h6⟩ := h4 j c hj
    exact ⟨ob, by rw [k.get i h3]; exact h5, h6⟩
/-- Cells that hold a value of type t, over a heap. -/
def Good (P : Program) (H : Heap) : Nat → TypeId → List Value → Prop
  | 0, _, _ => False
  | m + 1, t, xs => match P.underlying t with
    | some .bool => ∃ b, xs = [.bool b]
    | some (.int k) => ∃ n, xs = [.int k n] ∧ (Lit.int k n).wf = true
    | some (.float k) => ∃ b, xs = [.float k b] ∧ (Lit.float k b).wf = true
    | some .string => ∃ s, xs = [.string s] ∧ s.size ≤ maxLen
    | some (.slice e) => ∃ (v : Value) (rows : List (List Value)), xs = [v] ∧ Sl H v (P.cellsOf e) rows.length rows.flatten ∧ rows.length ≤ maxLen ∧ ∀ r ∈ rows, r.length = P.cellsOf e ∧ Good P H m e r
    | some (.struct fs) => xs.length = P.cellsOf t ∧ ∀ f ∈ fs.toList, Good P H m f.type ((xs.drop f.offset).take (P.cellsOf f.type))
    | _ => False
theorem Good.keep {P : Program} {H H' : Heap} (k : Keep H H') : ∀ (m : Nat) (t : TypeId) (xs : List Value), Good P H m t xs → Good P H' m t xs := by
  intro m
  induction m with
  | zero => intro t xs h; exact h.elim
  | succ m ih =>
    intro t xs h
    unfold Good at h ⊢
    split <;> simp_all
    · obtain ⟨v, h1, rows, h2, h3, h4⟩ := h
      exact ⟨v, h1, rows, h2.keep k, h3, fun r hr => ⟨(h4 r hr).1, ih _ _ (h4 r hr).2⟩⟩
/-- The fields of a struct lie one behind the other. -/
def laid (P : Program) : List Field → Nat → Nat → Bool
  | [], o, n => o == n
  | f :: fs, o, n => f.offset == o && laid P fs (o + P.cellsOf f.type) n
/-- A type made of numbers, truth values, strings, slices and structs alone. -/
def plainT (P : Program) : Nat → TypeId → Bool
  | 0, _ => false
  | m + 1, t => match P.underlying t with
    | some .bool | some (.int _) | some (.float _) | some .string => true
    | some (.slice e) => plainT P m e
    | some (.struct fs) => laid P fs.toList 0 (P.cellsOf t) && fs.toList.all fun f => plainT P m f.type
    | _ => false
def Views (H : Heap) : Prop := ∀ i ob, H.get i = some ob → ∃ cs, ob = .view cs
def Heap.view_ (H : Heap) (cs : List Value) : Heap := ⟨fun x => if x = H.nxt then some (.view cs) else H.get x, H.nxt + 1⟩
def Heap.name_ (H : Heap) : Heap := ⟨H.get, H.nxt + 1⟩
theorem Keep.view (H : Heap) (cs : List Value) : Keep H (H.view_ cs) := ⟨Nat.le_succ _, fun i hi => by simp only [Heap.view_]; rw [if_neg (by omega)]⟩
theorem Keep.name (H : Heap) : Keep H H.name_ := ⟨Nat.le_succ _, fun _ _ => rfl⟩
theorem Views.view {H : Heap} (h : Views H) (cs : List Value) : Views (H.view_ cs) := by
  intro i ob hi
  simp only [Heap.view_] at hi
  split at hi
  · injection hi with hi; exact ⟨cs, hi.symm⟩
  · exact h i ob hi
theorem rel_free {ρ : Map} {H : Heap} {w : World} (h : Rel ρ H w) : ρ H.nxt = none := by
  cases hx : ρ H.nxt with
  | none => rfl
  | some x => have := h.fresh _ _ hx; omega
theorem rel_view {ρ : Map} {H : Heap} {w : World} (h : Rel ρ H w) (hv : Views H) (cs : List Value) (b : Addr) (L : Nat) (hb : b.block < w.heap.size) (hc : ∀ j c, cs[j]? = some c → ∃ c', w.cell? (b.add j) = some c' ∧ VL ρ c c') :
    Rel (ρ.at_ H.nxt (b, L)) (H.view_ cs) w := by
  have hle : Map.le ρ (ρ.at_ H.nxt (b, L)) := Map.le_at (rel_free h)
  refine ⟨fun i vs hi => ?_, fun i vs hi => ?_, fun i j vs o g off L b' L' hi => ?_, fun i o hi => ?_, fun i x hi => ?_⟩
  · simp only [Heap.view_] at hi
    split at hi
    · rename_i e
      subst e
      injection hi with hi; injection hi with hi; subst hi
      refine ⟨b, L, Map.at_self _ _ _, hb, fun j c hj => ?_⟩
      obtain ⟨c', h1, h2⟩ := hc j c hj
      exact ⟨c', h1, h2.le hle⟩
    · obtain ⟨b1, L1, h1, h2, h3⟩ := h.view i vs hi
      refine ⟨b1, L1, hle _ _ h1, h2, fun j c hj => ?_⟩
      obtain ⟨c', h4, h5⟩ := h3 j c hj
      exact ⟨c', h4, h5.le hle⟩
  · obtain ⟨cs', e⟩ := (hv.view cs) i _ hi
    cases e
  · obtain ⟨cs', e⟩ := (hv.view cs) i _ hi
    cases e
  · simp only [Heap.view_] at hi ⊢
    split at hi
    · omega
    · have := h.lt i o hi; omega
  · simp only [Heap.view_, Map.at_] at hi ⊢
    split at hi
    · omega
    · have := h.fresh i x hi; omega
theorem rel_name {ρ : Map} {H : Heap} {w : World} (h : Rel ρ H w) (hv : Views H) (x : Addr × Nat) : Rel (ρ.at_ H.nxt x) H.name_ w := by
  have hle : Map.le ρ (ρ.at_ H.nxt x) := Map.le_at (rel_free h)
  refine ⟨fun i vs hi => ?_, fun i vs hi => ?_, fun i j vs o g off L b' L' hi => ?_, fun i o hi => ?_, fun i y hi => ?_⟩
  · obtain ⟨b1, L1, h1, h2, h3⟩ := h.view i vs hi
    refine ⟨b1, L1, hle _ _ h1, h2, fun j c hj => ?_⟩
    obtain ⟨c', h4, h5⟩ := h3 j c hj
    exact ⟨c', h4, h5.le hle⟩
  · obtain ⟨cs', e⟩ := hv i _ hi
    cases e
  · obtain ⟨cs', e⟩ := hv i _ hi
    cases e
  · exact Nat.lt_succ_of_lt (h.lt i o hi)
  · simp only [Map.at_] at hi
    split at hi
    · rename_i e; subst e; exact Nat.lt_succ_self _
    · exact Nat.lt_succ_of_lt (h.fresh i y hi)
section
variable {A : Type} {enc : TypeId × Value → A} {P : Program} {w : World} {base : Nat} {spare : Nat → Bool} {held : Bool}
theorem trod_float {k : FloatKind} {t : TypeId} {cs : List Value} {fuel : Nat} {x : DataW A × List MemPlace} (ht : P.underlying t = some (.float k)) (h : DataW.trod enc P w base spare held fuel t cs = some x) : ∃ b, cs = [.float k b] ∧ (Lit.float k b).wf = true := by
  cases fuel with
  | zero => simp [DataW.trod] at h
  | succ n =>
    unfold DataW.trod at h
    rw [ht] at h
    split at h <;> simp_all
theorem trod_string_ {t : TypeId} {cs : List Value} {fuel : Nat} {x : DataW A × List MemPlace} (ht : P.underlying t = some .string) (h : DataW.trod enc P w base spare held fuel t cs = some x) : ∃ s, cs = [.string s] ∧ s.size ≤ maxLen := by
  cases fuel with
  | zero => simp [DataW.trod] at h
  | succ n =>
    unfold DataW.trod at h
    rw [ht] at h
    split at h <;> simp_all
/-- What has been brought over so far. -/
structure Over (w : World) (ρ : Map) (H : Heap) (ρ' : Map) (H' : Heap) : Prop where
  le : Map.le ρ ρ'
  rel : Rel ρ' H' w
  views : Views H'
  keep : Keep H H'
theorem Over.trans {ρ ρ1 ρ2 : Map} {H H1 H2 : Heap} (h : Over w ρ H ρ1 H1) (k : Over w ρ1 H1 ρ2 H2) : Over w ρ H ρ2 H2 := ⟨Map.le_trans h.le k.le, k.rel, k.views, h.keep.trans k.keep⟩
theorem flatten_get {sz : Nat} : ∀ {rows : List (List Value)}, (∀ r ∈ rows, r.length = sz) → ∀ j c, rows.flatten[j]? = some c → ∃ i r, rows[i]? = some r ∧ j = i * sz + (j - i * sz) ∧ r[j - i * sz]? = some c
  | [], _, j, c, h => by simp at h
  | r :: rows, hr, j, c, h => by
    have hl := hr r (by simp)
    rw [List.flatten_cons, List.getElem?_append] at h
    split at h
    · exact ⟨0, r, rfl, by omega, by simpa using h⟩
    · rename_i hlt
      obtain ⟨i, r', h1, h2, h3⟩ := flatten_get (sz := sz) (fun r' hr' => hr r' (by simp [hr'])) _ _ h
      refine ⟨i + 1, r', by simpa using h1, ?_, ?_⟩
      · rw [Nat.add_mul, Nat.one_mul]; omega
      · rw [show j - (i + 1) * sz = j - r.length - i * sz by rw [Nat.add_mul, Nat.one_mul]; omega]
        exact h3
theorem add_add_ (a : Addr) (i j : Nat) : (a.add i).add j = a.add (i + j) := by
  unfold Addr.add
  by_cases hi : i = 0 <;> by_cases hj : j = 0 <;> simp [hi, hj, Nat.add_assoc]
theorem flatten_length {sz : Nat} : ∀ {rows : List (List Value)}, (∀ r ∈ rows, r.length = sz) → rows.flatten.length = rows.length * sz
  | [], _ => by simp
  | r :: rows, hr => by
    have h1 := flatten_length (sz := sz) (rows := rows) (fun r' hr' => hr r' (by simp [hr']))
    rw [List.flatten_cons, List.length_append, h1, hr r (by simp), List.length_cons, Nat.add_mul, Nat.one_mul, Nat.add_comm]
theorem over_of : ∀ (n m : Nat) (t : TypeId) (cs : List Value) (x : DataW A × List MemPlace) (ρ : Map) (H : Heap), plainT P m t = true → DataW.trod enc P w base spare held n t cs = some x → Rel ρ H w → Views H →
    ∃ xs ρ' H', Over w ρ H ρ' H' ∧ All2 (VL ρ') xs cs ∧ Good P H' n t xs := by
  intro n
  induction n with
  | zero => intro m t cs x ρ H _ h; simp [DataW.trod] at h
  | succ n ih =>
    intro m t cs x ρ H hp h hR hV
    have h0 : Over w ρ H ρ H := ⟨Map.le_refl _, hR, hV, Keep.refl _⟩
    cases m with
    | zero => cases hp
    | succ m =>
      unfold plainT at hp
      split at hp
      · rename_i hu
        obtain ⟨b, rfl, _⟩ := DataW.trod_bool hu h
        exact ⟨_, ρ, H, h0, .cons (.flat rfl) .nil, by unfold Good; rw [hu]; exact ⟨b, rfl⟩⟩
      · rename_i k hu
        obtain ⟨b, rfl, _, hw⟩ := DataW.trod_int hu h
        exact ⟨_, ρ, H, h0, .cons (.flat rfl) .nil, by unfold Good; rw [hu]; exact ⟨b, rfl, hw⟩⟩
      · rename_i k hu
        obtain ⟨b, rfl, hw⟩ := trod_float hu h
        exact ⟨_, ρ, H, h0, .cons (.flat rfl) .nil, by unfold Good; rw [hu]; exact ⟨b, rfl, hw⟩⟩
      · rename_i hu
        obtain ⟨s, rfl, hw⟩ := trod_string_ hu h
        exact ⟨_, ρ, H, h0, .cons (.flat rfl) .nil, by unfold Good; rw [hu]; exact ⟨s, rfl, hw⟩⟩
      · rename_i e hu
        rcases DataW.trod_slice hu h with ⟨rfl, _⟩ | ⟨a, len, cap, elems, rest, n', hn, rfl, _, hb, hl, hm, hlen, hel, _, _⟩
        · refine ⟨_, ρ, H, h0, .cons (.flat rfl) .nil, ?_⟩
          unfold Good
          rw [hu]
          exact ⟨_, [], rfl, ⟨by simp, .inl ⟨rfl, rfl⟩⟩, by simp, fun r hr => by cases hr⟩
        · injection hn with hn
          subst hn
          -- the elements, one by one
          have each : ∀ k, k ≤ len → ∃ (rows : List (List Value)) (ρ' : Map) (H' : Heap), Over w ρ H ρ' H' ∧ rows.length = k ∧ (∀ (i : Nat) (r : List Value), rows[i]? = some r → r.length = P.cellsOf e ∧ Good P H' n e r ∧ ∀ (j : Nat) (c : Value), r[j]? = some c → ∃ c', w.cell? (a.add (i * P.cellsOf e + j)) = some c' ∧ VL ρ' c c') := by
            intro k
            induction k with
            | zero => intro _; exact ⟨[], ρ, H, h0, rfl, fun i r hr => by simp at hr⟩
            | succ k ihk =>
              intro hk
              obtain ⟨rows, ρ1, H1, o1, hr1, hg1⟩ := ihk (by omega)
              have hek : elems[k]? = some elems[k] := List.getElem?_eq_getElem (by omega)
              have h1 := hel k (by omega)
              rw [hek, Option.bind_eq_some_iff] at h1
              obtain ⟨cs1, h2, h3⟩ := h1
              obtain ⟨_, h4, h5⟩ := World.cells?_some h2
              obtain ⟨xs, ρ2, H2, o2, h6, h7⟩ := ih m e cs1 _ ρ1 H1 hp h3 o1.rel o1.views
              refine ⟨rows ++ [xs], ρ2, H2, o1.trans o2, by simp [hr1], fun i r hr => ?_⟩
              rw [List.getElem?_append] at hr
              split at hr
              · obtain ⟨g1, g2, g3⟩ := hg1 i r hr
                refine ⟨g1, g2.keep o2.keep, fun j c hj => ?_⟩
                obtain ⟨c', g4, g5⟩ := g3 j c hj
                exact ⟨c', g4, g5.le o2.le⟩
              · rename_i hi
                have hi0 : i = k := by
                  have := (List.getElem?_eq_some_iff.1 hr).1
                  simp at this
                  omega
                subst hi0
                have : r = xs := by simpa [hr1] using hr.symm
                subst this
                refine ⟨by rw [h6.length, h4], h7, fun j c hj => ?_⟩
                obtain ⟨c', g1, g2⟩ := h6.get j c hj
                have hjl : j < P.cellsOf e := by rw [← h4]; exact (List.getElem?_eq_some_iff.1 g1).1
                exact ⟨c', by rw [← add_add_, h5 j hjl]; exact g1, g2⟩
          obtain ⟨rows, ρ1, H1, o1, hrl, hg⟩ := each len (Nat.le_refl _)
          have hsz : ∀ r ∈ rows, r.length = P.cellsOf e := fun r hr => by
            obtain ⟨i, hi⟩ := List.getElem?_of_mem hr
            exact (hg i r hi).1
          have hgood : ∀ r ∈ rows, Good P H1 n e r := fun r hr => by
            obtain ⟨i, hi⟩ := List.getElem?_of_mem hr
            exact (hg i r hi).2.1
          have hcells : ∀ j c, rows.flatten[j]? = some c → ∃ c', w.cell? (a.add j) = some c' ∧ VL ρ1 c c' := fun j c hj => by
            obtain ⟨i, r, h1, h2, h3⟩ := flatten_get hsz j c hj
            obtain ⟨c', h4, h5⟩ := (hg i r h1).2.2 _ c h3
            exact ⟨c', by rw [← h2] at h4; exact h4, h5⟩
          have hn0 := rel_free o1.rel
          have mk : ∀ H2 : Heap, H2.nxt = H1.nxt + 1 → Keep H1 H2 → (∀ j c, rows.flatten[j]? = some c → ∃ ob, H2.get H1.nxt = some ob ∧ ob.cells[0 + j]? = some c) → Good P H2 (n + 1) t [.slice (some ⟨H1.nxt, 0, none⟩) len (P.cellsOf e)] := fun H2 h1 hk h2 => by
            unfold Good
            rw [hu]
            refine ⟨_, rows, rfl, ⟨flatten_length hsz, .inr ⟨H1.nxt, 0, by rw [hrl], by omega, h2⟩⟩, by omega, fun r hr => ⟨hsz r hr, (hgood r hr).keep hk⟩⟩
          by_cases hnil : rows.flatten = []
          · have hle := Map.le_at (x := (a, cap * P.cellsOf e)) hn0
            refine ⟨_, ρ1.at_ H1.nxt (a, cap * P.cellsOf e), H1.name_, o1.trans ⟨hle, rel_name o1.rel o1.views _, o1.views, Keep.name _⟩, .cons ?_ .nil, mk _ rfl (Keep.name _) (fun j c hj => by rw [hnil] at hj; simp at hj)⟩
            have := VL.slc (o := 0) (n := len) (sz := P.cellsOf e) (c := cap) (Map.at_self ρ1 H1.nxt (a, cap * P.cellsOf e)) hl (by omega)
            simpa [Addr.add] using this
          · have hblk : a.block < w.heap.size := by
              obtain ⟨c, hc⟩ : ∃ c, rows.flatten[0]? = some c := by
                cases hx : rows.flatten with
                | nil => exact absurd hx hnil
                | cons c _ => exact ⟨c, rfl⟩
              obtain ⟨c', h1, _⟩ := hcells 0 c hc
              have h2 : w.cells? base (a.add 0) 1 = some [c'] := ChangeShapes.cells?_one hb h1
              exact World.cells?_block h2 (by omega)
            have hle := Map.le_at (x := (a, cap * P.cellsOf e)) hn0
            refine ⟨_, ρ1.at_ H1.nxt (a, cap * P.cellsOf e), H1.view_ rows.flatten, o1.trans ⟨hle, rel_view o1.rel o1.views _ a _ hblk hcells, o1.views.view _, Keep.view _ _⟩, .cons ?_ .nil, mk _ rfl (Keep.view _ _) (fun j c hj => ⟨.view rows.flatten, by simp [Heap.view_], by simpa [Obj.cells] using hj⟩)⟩
            have := VL.slc (o := 0) (n := len) (sz := P.cellsOf e) (c := cap) (Map.at_self ρ1 H1.nxt (a, cap * P.cellsOf e)) hl (by omega)
            simpa [Addr.add] using this
      · rename_i fs hu
        simp only [Bool.and_eq_true, List.all_eq_true] at hp
        obtain ⟨hlaid, hall⟩ := hp
        obtain ⟨xs0, n', hn, _, hcl, hxl, hf⟩ := DataW.trod_struct hu h
        injection hn with hn
        subst hn
        have key : ∀ (l : List Field) (o : Nat) (ρ : Map) (H : Heap), laid P l o cs.length = true → o ≤ cs.length → (∀ f ∈ l, plainT P m f.type = true ∧ ∃ x, DataW.trod enc P w base spare held n f.type ((cs.drop f.offset).take (P.cellsOf f.type)) = some x) → Rel ρ H w → Views H →
            ∃ xs ρ' H', Over w ρ H ρ' H' ∧ All2 (VL ρ') xs (cs.drop o) ∧ ∀ f ∈ l, o ≤ f.offset ∧ Good P H' n f.type ((xs.drop (f.offset - o)).take (P.cellsOf f.type)) := by
          intro l
          induction l with
          | nil =>
            intro o ρ H h1 h2 _ hR hV
            simp only [laid, beq_iff_eq] at h1
            exact ⟨[], ρ, H, ⟨Map.le_refl _, hR, hV, Keep.refl _⟩, by rw [List.drop_of_length_le (by omega)]; exact .nil, fun f hf => by cases hf⟩
          | cons f l ihl =>
            intro o ρ H h1 h2 h3 hR hV
            simp only [laid, Bool.and_eq_true, beq_iff_eq] at h1
            obtain ⟨hfo, h1⟩ := h1
            obtain ⟨hpf, x, hx⟩ := h3 f (by simp)
            obtain ⟨ys, ρ1, H1, o1, h4, h5⟩ := ih m f.type _ x ρ H hpf hx hR hV
            have hle : o + P.cellsOf f.type ≤ cs.length := by
              have : ∀ (l : List Field) (o : Nat), laid P l o cs.length = true → o ≤ cs.length := by
                intro l
                induction l with
                | nil => intro o h; simp only [laid, beq_iff_eq] at h; omega
                | cons g l ihl => intro o h; simp only [laid, Bool.and_eq_true, beq_iff_eq] at h; have := ihl _ h.2; omega
              exact this l _ h1
            obtain ⟨zs, ρ2, H2, o2, h6, h7⟩ := ihl _ ρ1 H1 h1 hle (fun g hg => h3 g (by simp [hg])) o1.rel o1.views
            have hyl : ys.length = P.cellsOf f.type := by
              rw [h4.length, List.length_take, List.length_drop, hfo]
              omega
            refine ⟨ys ++ zs, ρ2, H2, o1.trans o2, ?_, ?_⟩
            · have e : cs.drop o = (cs.drop o).take (P.cellsOf f.type) ++ cs.drop (o + P.cellsOf f.type) := by rw [← List.drop_drop, List.take_append_drop]
              rw [e]
              refine .append (All2.imp (R := VL ρ1) (fun _ _ hv => hv.le o2.le) ?_) h6
              rw [hfo] at h4
              exact h4
            · intro g hg
              rcases List.mem_cons.1 hg with rfl | hg
              · refine ⟨by omega, ?_⟩
                rw [show g.offset - o = 0 by omega, List.drop_zero, List.take_append_of_le_length (by omega), List.take_of_length_le (by omega)]
                exact h5.keep o2.keep
              · obtain ⟨h8, h9⟩ := h7 g hg
                refine ⟨by omega, ?_⟩
                rw [show g.offset - o = ys.length + (g.offset - (o + P.cellsOf f.type)) by omega, List.drop_append, List.drop_of_length_le (by omega), List.nil_append, Nat.add_sub_cancel_left]
                exact h9
        obtain ⟨xs, ρ', H', o1, h1, h2⟩ := key fs.toList 0 ρ H (by rw [hcl]; exact hlaid) (by omega) (fun f hfm => by
          refine ⟨hall f hfm, ?_⟩
          obtain ⟨i, hi⟩ := List.getElem?_of_mem hfm
          have hi' : fs[i]? = some f := by simpa using hi
          have hil : i < xs0.length := by rw [hxl]; exact (Array.getElem?_eq_some_iff.1 hi').1
          exact ⟨xs0[i], by rw [hf i f hi']; exact List.getElem?_eq_getElem hil⟩) hR hV
        rw [List.drop_zero] at h1
        refine ⟨xs, ρ', H', o1, h1, ?_⟩
        unfold Good
        rw [hu]
        refine ⟨by rw [h1.length, hcl], fun f hfm => ?_⟩
        have := (h2 f hfm).2
        rw [Nat.sub_zero] at this
        exact this
      · cases hp
end
end Go.Proofs.Ytkadelndmaegdaa.AX
