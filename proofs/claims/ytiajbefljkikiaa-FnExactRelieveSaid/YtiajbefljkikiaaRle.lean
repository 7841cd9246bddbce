/- Relieving crews: the fewest duties, and the way that is told. Plain, and memory of two rows. No condition; nothing of the program. -/
import Derived.Test.YtiajbefljkikiaaRld
namespace Go.Proofs.Ytiajbefljkikiaa.AX
open Go
set_option linter.unusedSimpArgs false
set_option linter.unusedVariables false
section
variable (n : Nat) (fine : Nat → Nat → Bool)
def dpS (F : Nat → Int) (i : Nat) (a : Int × Int) (j : Nat) : Int × Int := if 0 ≤ F j ∧ fine i j = true ∧ (a.1 < 0 ∨ F j + 1 < a.1) then (F j + 1, (j : Int)) else a
def dpI (F : Nat → Int) (i : Nat) : Nat → Int × Int
  | 0 => (-1, 0)
  | m + 1 => dpS fine F i (dpI F i m) (i + 1 + m)
def dpM (i : Nat) : Nat := min n (i + 12) - i
def dpT : Nat → Nat → Int × Int
  | 0 => fun _ => (0, 0)
  | c + 1 => fun k => if k = n - 1 - c then dpI fine (fun j => (dpT c j).1) (n - 1 - c) (dpM n (n - 1 - c)) else dpT c k
variable {n fine}
theorem dpT_succ {c k : Nat} : dpT n fine (c + 1) k = if k = n - 1 - c then dpI fine (fun j => (dpT n fine c j).1) (n - 1 - c) (dpM n (n - 1 - c)) else dpT n fine c k := rfl
theorem dpT_zero {k : Nat} : dpT n fine 0 k = (0, 0) := rfl
theorem dpI_congr {F G : Nat → Int} {i : Nat} : ∀ {m : Nat}, (∀ j, i < j → j ≤ i + m → F j = G j) → dpI fine F i m = dpI fine G i m
  | 0, _ => rfl
  | m + 1, h => by
    rw [dpI, dpI, dpI_congr (m := m) (fun j h1 h2 => h j h1 (by omega)), dpS, dpS, h (i + 1 + m) (by omega) (by omega)]
theorem dpT_later {c j : Nat} (hc : c < n) (hj : n - 1 - c < j) : dpT n fine (c + 1) j = dpT n fine c j := by
  rw [dpT_succ, if_neg (by omega)]
theorem dpT_stable {c : Nat} {j : Nat} (hj : n ≤ j + c) : ∀ {d : Nat}, c + d ≤ n → dpT n fine (c + d) j = dpT n fine c j
  | 0, _ => rfl
  | d + 1, h => by
    rw [← Nat.add_assoc, dpT_later (by omega) (by omega)]
    exact dpT_stable hj (by omega)
/-- The whole table. -/
theorem dpT_at {i : Nat} (hi : i < n) : dpT n fine n i = dpI fine (fun j => (dpT n fine n j).1) i (dpM n i) := by
  have e : dpT n fine n i = dpT n fine (n - i) i := by
    have := dpT_stable (fine := fine) (n := n) (c := n - i) (j := i) (by omega) (d := i) (by omega)
    rwa [show n - i + i = n by omega] at this
  have e2 : dpT n fine (n - i) i = dpI fine (fun j => (dpT n fine (n - 1 - i) j).1) i (dpM n i) := by
    obtain ⟨c, hc⟩ : ∃ c, n - i = c + 1 := ⟨n - i - 1, by omega⟩
    rw [hc, dpT_succ, if_pos (by omega), show n - 1 - c = i by omega, show n - 1 - i = c by omega]
  rw [e, e2]
  refine dpI_congr (fun j h1 h2 => ?_)
  have hj : j ≤ n := by unfold dpM at h2; omega
  have := dpT_stable (fine := fine) (n := n) (c := n - 1 - i) (j := j) (by omega) (d := i + 1) (by omega)
  rw [show n - 1 - i + (i + 1) = n by omega] at this
  rw [this]
theorem dpT_n : dpT n fine n n = (0, 0) := by
  have := dpT_stable (fine := fine) (n := n) (c := 0) (j := n) (by omega) (d := n) (by omega)
  rw [Nat.zero_add] at this
  rw [this]
  rfl
theorem dpI_bd {F : Nat → Int} {i : Nat} (h : ∀ j, i < j → j ≤ n → -1 ≤ F j ∧ F j ≤ n - j) : ∀ {m : Nat}, m ≤ dpM n i → -1 ≤ (dpI fine F i m).1 ∧ ((dpI fine F i m).1 ≤ n - i ∨ (dpI fine F i m).1 = -1)
  | 0, _ => ⟨Int.le_refl _, .inr rfl⟩
  | m + 1, hm => by
    have ih := dpI_bd h (m := m) (by omega)
    rw [dpI, dpS]
    split
    · rename_i hc
      have hj := h (i + 1 + m) (by omega) (by unfold dpM at hm; omega)
      refine ⟨by simp only; omega, .inl ?_⟩
      simp only
      omega
    · exact ih
theorem dpT_bd : ∀ {c : Nat}, c ≤ n → ∀ k, k ≤ n → -1 ≤ (dpT n fine c k).1 ∧ (dpT n fine c k).1 ≤ n - k
  | 0, _, k, hk => ⟨by rw [dpT_zero]; simp, by rw [dpT_zero]; simp; omega⟩
  | c + 1, hc, k, hk => by
    have ih := dpT_bd (c := c) (by omega)
    rw [dpT_succ]
    split
    · rename_i e
      have := dpI_bd (fine := fine) (F := fun j => (dpT n fine c j).1) (i := n - 1 - c) (n := n) (fun j h1 h2 => ih j h2) (m := dpM n (n - 1 - c)) (Nat.le_refl _)
      subst e
      refine ⟨this.1, ?_⟩
      rcases this.2 with h | h
      · exact h
      · omega
    · exact ih k hk
/-- What is known of the best so far. -/
def dpP (fine : Nat → Nat → Bool) (F : Nat → Int) (i m : Nat) : Prop :=
  ((dpI fine F i m).1 < 0 ∧ ∀ j, i < j → j ≤ i + m → 0 ≤ F j → fine i j = false) ∨
  (0 ≤ (dpI fine F i m).1 ∧ ∃ x : Nat, (dpI fine F i m).2 = (x : Int) ∧ i < x ∧ x ≤ i + m ∧ fine i x = true ∧ 0 ≤ F x ∧ F x + 1 = (dpI fine F i m).1 ∧
    ∀ j, i < j → j ≤ i + m → 0 ≤ F j → fine i j = true → (dpI fine F i m).1 ≤ F j + 1 ∧ (j < x → (dpI fine F i m).1 < F j + 1))
theorem dpP_all {F : Nat → Int} {i : Nat} : ∀ m : Nat, dpP fine F i m
  | 0 => .inl ⟨by rw [dpI]; omega, fun j h1 h2 => by omega⟩
  | m + 1 => by
    have ih := dpP_all (F := F) (i := i) m
    unfold dpP at ih ⊢
    rw [dpI]
    generalize dpI fine F i m = a at ih ⊢
    rw [dpS]
    split
    · rename_i hc
      obtain ⟨c1, c2, c3⟩ := hc
      right
      refine ⟨by simp only; omega, i + 1 + m, rfl, by omega, by omega, c2, c1, rfl, fun j h1 h2 h3 h4 => ?_⟩
      simp only
      by_cases e : j = i + 1 + m
      · subst e; exact ⟨Int.le_refl _, fun h => by omega⟩
      · rcases ih with ⟨_, h⟩ | ⟨h0, x, _, _, _, _, _, _, h⟩
        · have := h j h1 (by omega) h3
          rw [this] at h4
          cases h4
        · have := (h j h1 (by omega) h3 h4).1
          exact ⟨by omega, fun _ => by omega⟩
    · rename_i hc
      rcases ih with ⟨h0, h⟩ | ⟨h0, x, h1, h2, h3, h4, h5, h6, h7⟩
      · left
        refine ⟨h0, fun j q1 q2 q3 => ?_⟩
        by_cases e : j = i + 1 + m
        · subst e
          cases hf : fine i (i + 1 + m) with
          | false => rfl
          | true => exact absurd ⟨q3, hf, .inl h0⟩ hc
        · exact h j q1 (by omega) q3
      · right
        refine ⟨h0, x, h1, h2, by omega, h4, h5, h6, fun j q1 q2 q3 q4 => ?_⟩
        by_cases e : j = i + 1 + m
        · subst e
          have : ¬ F (i + 1 + m) + 1 < a.1 := fun hh => hc ⟨q3, q4, .inr hh⟩
          exact ⟨by omega, fun hh => by omega⟩
        · exact h7 j q1 (by omega) q3 q4
/-- The next place from a place from which there is a way. -/
theorem dp_next {i : Nat} (hi : i < n) (h : 0 ≤ (dpT n fine n i).1) : ∃ x : Nat, (dpT n fine n i).2 = (x : Int) ∧ i < x ∧ x ≤ n ∧ x ≤ i + 12 ∧ fine i x = true ∧ 0 ≤ (dpT n fine n x).1 ∧ (dpT n fine n x).1 + 1 = (dpT n fine n i).1 ∧
    ∀ j, i < j → j < x → 0 ≤ (dpT n fine n j).1 → (dpT n fine n j).1 + 1 = (dpT n fine n i).1 → fine i j = false := by
  have hp := dpP_all (fine := fine) (F := fun j => (dpT n fine n j).1) (i := i) (dpM n i)
  unfold dpP at hp
  rw [← dpT_at hi] at hp
  rcases hp with ⟨h0, _⟩ | ⟨_, x, h1, h2, h3, h4, h5, h6, h7⟩
  · omega
  · refine ⟨x, h1, h2, by unfold dpM at h3; omega, by unfold dpM at h3; omega, h4, h5, h6, fun j q1 q2 q3 q4 => ?_⟩
    cases hf : fine i j with
    | false => rfl
    | true =>
      have h8 : (dpT n fine n i).1 < (dpT n fine n j).1 + 1 := (h7 j q1 (by omega) q3 hf).2 q2
      omega
/-- The places at which duties begin. -/
def dpL (n : Nat) (fine : Nat → Nat → Bool) : Nat → Nat → List Int
  | 0, _ => []
  | f + 1, i => if i < n then (i : Int) :: dpL n fine f (dpT n fine n i).2.toNat else []
theorem dpL_end {f : Nat} : dpL n fine f n = [] := by
  cases f with
  | zero => rfl
  | succ f => rw [dpL, if_neg (Nat.lt_irrefl _)]
theorem dpL_step {f i x : Nat} (hi : i < n) (hf : n - i ≤ f) (hx : (dpT n fine n i).2 = (x : Int)) (hix : i < x) : ∃ g, n - x ≤ g ∧ dpL n fine f i = (i : Int) :: dpL n fine g x := by
  obtain ⟨g, rfl⟩ : ∃ g, f = g + 1 := ⟨f - 1, by omega⟩
  exact ⟨g, by omega, by rw [dpL, if_pos hi, hx, Int.toNat_natCast]⟩
end
/-- A row of values of a function. -/
def tabL (f : Nat → Int) (N : Nat) : List Int := (List.range N).map f
theorem tabL_len (f : Nat → Int) (N : Nat) : (tabL f N).length = N := by simp [tabL]
theorem tabL_get {f : Nat → Int} {N j : Nat} (h : j < N) : (tabL f N).getD j 0 = f j := by
  rw [tabL, List.getD_eq_getElem?_getD, List.getElem?_map, List.getElem?_range h]
  rfl
theorem tabL_set (f : Nat → Int) (N i : Nat) (y : Int) : (tabL f N).set i y = tabL (fun k => if k = i then y else f k) N := by
  refine List.ext_getElem? fun j => ?_
  rw [List.getElem?_set]
  by_cases h : j < N
  · have e1 : (tabL f N)[j]? = some (f j) := by rw [tabL, List.getElem?_map, List.getElem?_range h]; rfl
    have e2 : (tabL (fun k => if k = i then y else f k) N)[j]? = some (if j = i then y else f j) := by rw [tabL, List.getElem?_map, List.getElem?_range h]; rfl
    rw [e1, e2, tabL_len]
    by_cases e : i = j
    · subst e; rw [if_pos rfl, if_pos h, if_pos rfl]
    · rw [if_neg e, if_neg (fun h => e h.symm)]
  · have e1 : (tabL f N)[j]? = none := List.getElem?_eq_none (by rw [tabL_len]; omega)
    have e2 : (tabL (fun k => if k = i then y else f k) N)[j]? = none := List.getElem?_eq_none (by rw [tabL_len]; omega)
    rw [e1, e2, tabL_len]
    by_cases e : i = j
    · rw [if_pos e, if_neg (by omega)]
    · rw [if_neg e]
theorem tabL_congr {f g : Nat → Int} {N : Nat} (h : ∀ j, j < N → f j = g j) : tabL f N = tabL g N := List.map_congr_left fun j hj => h j (List.mem_range.1 hj)
theorem tabL_zero (N : Nat) : tabL (fun _ => 0) N = List.replicate N 0 := by simp [tabL, List.map_const']
/-- A row that lies at a. -/
def Arr (H : Heap) (a : Nat) (xs : List Int) : Prop := a < H.nxt ∧ H.get a = some (.own (xs.map (Value.int .i64)))
section
variable {H H' : Heap} {a b : Nat} {xs ys : List Int} {va : Value}
theorem Arr.ints (h : Arr H a xs) {N : Nat} (hN : xs.length = N) (hva : va = .slice (some ⟨a, 0, none⟩) N 1) : Ints H va xs := by
  rw [hva, ← hN]
  exact sl_own h.1 h.2 (by simp)
theorem Arr.st (h : Arr H a xs) {N i : Nat} {y : Int} (hN : xs.length = N) (hva : va = .slice (some ⟨a, 0, none⟩) N 1) (hi : i < N) : vst H 1 (.int .i64 y) (adr va i 1 0) = some (undef, H.set a ((xs.set i y).map (Value.int .i64))) := by
  rw [hva]
  have h1 : ∀ zs : List Int, fcells (fZ .i64) zs = zs.map (Value.int .i64) := fun zs => fcZ _ _
  simp only [adr, Zcq, h.2]
  rw [show 0 + i * 1 + 0 = i * 1 by omega, ← h1, ← h1]
  exact stO_elem (fZ_len .i64) rfl rfl (by omega)
theorem Arr.set (h : Arr H a xs) : Arr (H.set a (ys.map (Value.int .i64))) a ys := ⟨by rw [Zbh]; exact h.1, by rw [Zbi, if_pos rfl]⟩
theorem Arr.other {cs : List Value} (h : Arr H b xs) (hn : b ≠ a) : Arr (H.set a cs) b xs := ⟨by rw [Zbh]; exact h.1, by rw [Zbi, if_neg hn]; exact h.2⟩
theorem Arr.keep (h : Arr H a xs) (k : Keep H H') : Arr H' a xs := ⟨Nat.lt_of_lt_of_le h.1 k.nxt, (k.get a h.1).trans h.2⟩
end
/-! ### Parts of a chain -/
def subL (ds : List Int) (i j : Nat) : List Int := (ds.drop i).take (j - i)
def fineB (ts : List Tk) (ds : List Int) (r : Ru) (i j : Nat) : Bool := decide ((if l17D ts (subL ds i j) = true then dcR ts (subL ds i j) r else 1) = 0)
theorem subL_len {ds : List Int} {i j : Nat} (h : j ≤ ds.length) : (subL ds i j).length = j - i := by
  rw [subL, List.length_take, List.length_drop]; omega
theorem sub_Vd {ts : List Tk} {ds : List Int} {i j : Nat} (ht : tksB ts = true) (hp : plB ts.length ds = true) (hij : i < j) (hj : j ≤ ds.length) (h12 : j ≤ i + 12) : Vd ts (subL ds i j) := by
  have hl := subL_len (i := i) hj
  refine ⟨ht, plB_iff.2 fun q hq => ?_, by omega, by omega⟩
  rw [hl] at hq
  have e : (subL ds i j).getD q 0 = ds.getD (i + q) 0 := by
    rw [subL, List.getD_eq_getElem?_getD, List.getElem?_take, if_pos hq, List.getElem?_drop, ← List.getD_eq_getElem?_getD]
  obtain ⟨h1, h2⟩ := plB_iff.1 hp (i + q) (by omega)
  rw [e]
  refine ⟨h1, ?_⟩
  rw [← Bool.not_eq_true, List.contains_iff_mem] at h2 ⊢
  intro hm
  refine h2 ?_
  rw [subL, List.take_take, Nat.min_eq_left (by omega)] at hm
  rw [List.take_add, List.mem_append]
  exact .inr hm
def rlOk (ts : List Tk) (ds : List Int) (r : Ru) : Bool := l17B ts ds 40 && ruB r
def rlR (ts : List Tk) (ds : List Int) (r : Ru) : List Int × Bool :=
  if rlOk ts ds r = true ∧ 0 ≤ (dpT ds.length (fineB ts ds r) ds.length 0).1 then (dpL ds.length (fineB ts ds r) ds.length 0, true) else ([], false)
end Go.Proofs.Ytiajbefljkikiaa.AX
