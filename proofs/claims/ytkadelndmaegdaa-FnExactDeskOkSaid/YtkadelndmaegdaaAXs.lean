/- From a run of the executor to a row. No condition beyond each law's own; nothing of the program. -/
import Derived.Test.YtkadelndmaegdaaAXr
namespace Go.Proofs.Ytkadelndmaegdaa.AX
open Go Go.RowKit Go.WideShapes Go.ChangeShapes

/-- A value of type t, over a heap. -/
def GoodV (P : Program) (H : Heap) (t : TypeId) (a : Value) : Prop :=
  ∃ n, match P.underlying t with
    | some (.struct _) => ∃ ys : Array Value, a = .agg ys ∧ Good P H n t ys.toList
    | _ => Good P H n t [a]
theorem GoodV.keep {P : Program} {H H' : Heap} {t : TypeId} {a : Value} (h : GoodV P H t a) (k : Keep H H') : GoodV P H' t a := by
  obtain ⟨n, h⟩ := h
  refine ⟨n, ?_⟩
  split at h
  · obtain ⟨ys, h1, h2⟩ := h
    exact ⟨ys, h1, h2.keep k⟩
  · exact h.keep k
def GoodArgs (P : Program) (H : Heap) : List TypeId → List Value → Prop
  | [], [] => True
  | t :: ts, a :: xs => GoodV P H t a ∧ GoodArgs P H ts xs
  | _, _ => False
theorem okWide_float {P : Program} {w : World} {r : Reach} {base : Nat} {t : TypeId} {v : Value} {k : FloatKind} (ht : P.underlying t = some (.float k)) (h : Value.okWide P w r base t v) : ∃ b, v = .float k b := by
  simp only [Value.okWide, ht, Cell.okWide] at h
  cases v <;> simp_all [Cell.ok]
theorem cells_one {P : Program} {w : World} {r : Reach} {base : Nat} {t : TypeId} {v : Value} {m : Nat} (hp : plainT P m t = true) (hns : ∀ fs, P.underlying t ≠ some (.struct fs)) (h : Value.okWide P w r base t v) : v.cells.toList = [v] ∧ oneCell v = true := by
  cases m with
  | zero => cases hp
  | succ m =>
    unfold plainT at hp
    split at hp
    · rename_i hu; obtain ⟨b, rfl⟩ := okWide_bool hu h; exact ⟨rfl, rfl⟩
    · rename_i k hu; obtain ⟨b, rfl⟩ := okWide_int hu h; exact ⟨rfl, rfl⟩
    · rename_i k hu; obtain ⟨b, rfl⟩ := okWide_float hu h; exact ⟨rfl, rfl⟩
    · rename_i hu; obtain ⟨b, rfl⟩ := okWide_string hu h; exact ⟨rfl, rfl⟩
    · rename_i e hu; obtain ⟨a, l, c, rfl⟩ := okWide_slice hu h; exact ⟨rfl, rfl⟩
    · rename_i fs hu; exact absurd hu (hns fs)
    · cases hp
section
variable {A : Type} {enc : TypeId × Value → A} {P : Program} {w : World} {base : Nat} {spare : Nat → Bool} {held : Bool}
theorem args_over {b0 : Nat} : ∀ (ts : List TypeId) (vs : List Value) (ds : List (DataW A)) (p : List MemPlace) (ρ : Map) (H : Heap), (∀ t ∈ ts, plainT P 9 t = true) → DataW.TrodAll enc P w base spare held ts vs ds p →
    (∀ (j : Nat) (t : TypeId) (v : Value), ts[j]? = some t → vs[j]? = some v → Value.okWide P w .any b0 t v) → Rel ρ H w → Views H → ∃ xs ρ' H', Over w ρ H ρ' H' ∧ All2 (VR ρ') xs vs ∧ GoodArgs P H' ts xs
  | [], vs, ds, p, ρ, H, _, hA, _, hR, hV => by
    obtain ⟨rfl, _, _⟩ := trodAll_nil hA
    exact ⟨[], ρ, H, ⟨Map.le_refl _, hR, hV, Keep.refl _⟩, .nil, trivial⟩
  | t :: ts, vs, ds, p, ρ, H, hp, hA, hok, hR, hV => by
    obtain ⟨v, vs', d, ds', p1, q1, rfl, rfl, rfl, ⟨fuel, h1⟩, h2⟩ := trodAll_cons hA
    have hpt := hp t (by simp)
    have hv := hok 0 t v rfl rfl
    obtain ⟨xs, ρ1, H1, o1, h3, h4⟩ := over_of fuel 9 t _ _ ρ H hpt h1 hR hV
    have hone : ∃ a, VR ρ1 a v ∧ GoodV P H1 t a := by
      by_cases hs : ∃ fs, P.underlying t = some (.struct fs)
      · obtain ⟨fs, hs⟩ := hs
        have hv' := hv
        simp only [Value.okWide, hs] at hv'
        obtain ⟨cs, rfl, _, _⟩ := hv'
        refine ⟨.agg xs.toArray, .one (.agg (by simpa [Value.cells] using h3)), fuel, ?_⟩
        rw [hs]
        exact ⟨_, rfl, by simpa using h4⟩
      · have hns : ∀ fs, P.underlying t ≠ some (.struct fs) := fun fs e => hs ⟨fs, e⟩
        obtain ⟨hc, ho⟩ := cells_one hpt hns hv
        rw [hc] at h3
        cases h3 with
        | cons h5 h6 =>
          cases h6
          refine ⟨_, .one (.leaf h5), fuel, ?_⟩
          split
          · rename_i fs hu
            exact absurd hu (hns fs)
          · exact h4
    obtain ⟨a, h5, h6⟩ := hone
    obtain ⟨ys, ρ2, H2, o2, h7, h8⟩ := args_over ts vs' ds' q1 ρ1 H1 (fun t ht => hp t (by simp [ht])) h2 (fun j t v hj hv => hok (j + 1) t v (by simpa using hj) (by simpa using hv)) o1.rel o1.views
    exact ⟨a :: ys, ρ2, H2, o1.trans o2, .cons (h5.le o2.le) h7, h6.keep o2.keep, h8⟩
def H00 : Heap := ⟨fun _ => none, 0⟩
theorem rel00 (w : World) : Rel (fun _ => none) H00 w where
  view := fun _ _ h => by cases h
  own := fun _ _ h => by cases h
  apart := fun _ _ _ _ _ _ _ _ _ h => by cases h
  lt := fun _ _ h => by cases h
  fresh := fun _ _ h => by cases h
/-- A run over every heap of views that holds such arguments is a run over every world that holds them. -/
theorem calls_of_run (hmo : P.follows .mixedOrders = true) {f : FuncId} {ts : List TypeId} {args : Array Value} {ds : List (DataW A)} {p : List MemPlace} {b0 : Nat} (hp : ∀ t ∈ ts, plainT P 9 t = true) (hA : DataW.TrodAll enc P w base spare held ts args.toList ds p)
    (hok : ∀ (j : Nat) (t : TypeId) (v : Value), ts[j]? = some t → args.toList[j]? = some v → Value.okWide P w .any b0 t v) (hrun : ∀ H xs, GoodArgs P H ts xs → ∃ H', CR P f xs H (.bool true) H') :
    Calls P f args w fun e w' => e = .returned (.bool true) ∧ Below w.heap.size w w' := by
  obtain ⟨xs, ρ, H, o1, h1, h2⟩ := args_over ts args.toList ds p _ H00 hp hA hok (rel00 w) (fun _ _ h => by cases h)
  obtain ⟨H', hr⟩ := hrun H xs h2
  rcases cr_sound hmo f xs H _ H' hr with ⟨_, h3⟩ | ⟨⟨_, _, _, _, _, _, _, _, _, _, _, _, h3⟩, _⟩
  case inr => cases h3
  refine (h3 ρ w args o1.rel h1).mono ?_
  rintro e w' ⟨v', ρ', rfl, hv, hN⟩
  have hb := hv.bool
  subst hb
  refine ⟨rfl, hN.os, hN.tape, hN.output, hN.size, fun k hk => hN.frame k hk ?_⟩
  rintro ⟨i, cs, a, L, h3, _⟩
  obtain ⟨cs', h4⟩ := o1.views i _ h3
  cases h4
theorem trod_all_below {ts : List TypeId} {vs : List Value} {ds : List (DataW A)} {p : List MemPlace} {W W' : World} (hl : laidOutB P = true) (hr : ∀ t ∈ ts, P.readableRec t = true ∧ t < P.types.size) (h : DataW.TrodAll enc P W 0 (fun _ => true) true ts vs ds p) (hb : Below W.heap.size W W') :
    DataW.TrodAll enc P W' 0 (fun b => decide (b < W.heap.size)) true ts vs ds p := by
  induction ts generalizing vs ds p with
  | nil =>
    obtain ⟨rfl, rfl, rfl⟩ := trodAll_nil h
    exact rfl
  | cons t ts ih =>
    obtain ⟨v, vs', d, ds', p1, q1, rfl, rfl, rfl, h1, h2⟩ := trodAll_cons h
    have hlt : ∀ x ∈ p1, x.block < W.heap.size := by obtain ⟨m, hm⟩ := h1; exact DataW.trod_lt m _ _ _ hm
    exact trodAll_cons_mk (Below.trod hl (hr t (by simp)).1 (hr t (by simp)).2 h1 hb hlt) (ih (fun t ht => hr t (by simp [ht])) h2)
end
end Go.Proofs.Ytkadelndmaegdaa.AX
