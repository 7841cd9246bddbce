/- New slices of flat data: append of one and of several, stores of whole elements. No condition beyond each law's own; nothing of the program. -/
import Derived.Test.YtkadelndmaegdaaAXzb
namespace Go.Proofs.Ytkadelndmaegdaa.AX
open Go
set_option maxRecDepth 10000
set_option linter.unusedSimpArgs false
set_option linter.unusedVariables false
section
variable {H H1 : Heap} {v x : Value} {sz n k bytes p : Nat} {cs ds : List Value}
/-- The cells that a slice reads, cut out of its block. -/
theorem Sl.seg {j o : Nat} (h : Sl H (.slice (some ⟨j, o, none⟩) n sz) sz n cs) (h0 : 0 < n * sz) : ∃ ob, H.get j = some ob ∧ o + n * sz ≤ ob.cells.length ∧ (ob.cells.drop o).take (n * sz) = cs := by
  have hl := h.1
  rcases h.2 with ⟨e, _⟩ | ⟨j', o', e, hj, hc⟩
  · cases e
  · cases e
    obtain ⟨ob, hob, hlt⟩ := hc (n * sz - 1) (cs[n * sz - 1]'(by omega)) (List.getElem?_eq_getElem (by omega))
    have hobl : o + (n * sz - 1) < ob.cells.length := (List.getElem?_eq_some_iff.1 hlt).1
    refine ⟨ob, hob, by omega, List.ext_getElem? fun i => ?_⟩
    rw [List.getElem?_take]
    split
    · rename_i hi
      rw [List.getElem?_drop]
      have hx : cs[i]? = some (cs[i]'(by omega)) := List.getElem?_eq_getElem (by omega)
      obtain ⟨ob', h5, h6⟩ := hc i _ hx
      rw [hob] at h5
      injection h5 with h5
      subst h5
      rw [hx, h6]
    · rename_i hi
      rw [List.getElem?_eq_none (by omega)]
/-- Append to own memory that is filled to its end. -/
theorem vapp_own (hs : 0 < sz) (hp : H1.get p = some (.own cs)) (hc : cs.length = n * sz) (hx : Sl H1 x sz k ds) (hb : (n + k) * bytes ≤ 140737488355328) :
    (k = 0 ∧ vapp H1 sz bytes (.slice (some ⟨p, 0, none⟩) n sz) x = some (.slice (some ⟨p, 0, none⟩) n sz, H1)) ∨ (0 < k ∧ vapp H1 sz bytes (.slice (some ⟨p, 0, none⟩) n sz) x = some (.slice (some ⟨H1.nxt, 0, none⟩) (n + k) sz, H1.moved p (cs ++ ds))) := by
  rcases hx.2 with ⟨rfl, rfl⟩ | ⟨j, o, rfl, hj, _⟩
  · exact .inl ⟨rfl, rfl⟩
  · rcases Nat.eq_zero_or_pos k with rfl | hk
    · exact .inl ⟨rfl, by cases sz <;> rfl⟩
    · obtain ⟨ob, hob, hfit, hseg⟩ := hx.seg (Nat.mul_pos hk hs)
      refine .inr ⟨hk, ?_⟩
      have e : vapp H1 sz bytes (.slice (some ⟨p, 0, none⟩) n sz) (.slice (some ⟨j, o, none⟩) k sz) = (if k = 0 then some (.slice (some ⟨p, 0, none⟩) n sz, H1) else match H1.get j with
          | some ob => if sz = sz ∧ o + k * sz ≤ ob.cells.length then
              (match H1.get p with
                | some (.own cs) => if sz = sz ∧ 0 + n * sz ≤ cs.length ∧ (n + k) * bytes ≤ 140737488355328 then some (.slice (some ⟨H1.nxt, 0, none⟩) (n + k) sz, H1.moved p ((cs.drop 0).take (n * sz) ++ (ob.cells.drop o).take (k * sz))) else none
                | _ => none)
            else none
          | none => none) := by
        cases k with
        | zero => omega
        | succ n => rfl
      rw [if_neg (by omega), hob, hp] at e
      simp only [true_and] at e
      rw [if_pos hfit, if_pos ⟨by omega, hb⟩, hseg, List.drop_zero, ← hc, List.take_length] at e
      exact e
end
/-- Where a slice's cells lie. -/
def blk (v : Value) : Nat := match v with
  | .slice (some ⟨b, _, none⟩) _ _ => b
  | _ => 0
theorem Sl.trL {H : Heap} {v : Value} {sz n i o ix : Nat} {cs : List Value} (h : Sl H v sz n cs) (hi : i < n) : trL ix (adr v i sz o) = [.L ix (blk v)] := by
  obtain ⟨b, o', rfl, _⟩ := h.some_ hi
  rfl
theorem Sl.blk_lt {H : Heap} {v : Value} {sz n i : Nat} {cs : List Value} (h : Sl H v sz n cs) (hi : i < n) : blk v < H.nxt := by
  obtain ⟨b, o', rfl, hb, _⟩ := h.some_ hi
  exact hb
/-- A new slice of flat data, from its block's beginning to its end. -/
def NewF {α : Type} (f : α → List Value) (n : Nat) (H H' : Heap) (v : Value) (xs : List α) : Prop := ∃ p, H.nxt ≤ p ∧ p < H'.nxt ∧ v = .slice (some ⟨p, 0, none⟩) xs.length n ∧ H'.get p = some (.own (fcells f xs))
section
variable {α : Type} {f : α → List Value} {n bytes : Nat} {H0 H1 H2 : Heap} {v w : Value} {xs ys : List α} {y : α}
theorem NewF.sl (hl : ∀ a, (f a).length = n) (h : NewF f n H0 H1 v xs) : Sl H1 v n xs.length (fcells f xs) := by
  obtain ⟨p, _, h1, rfl, h2⟩ := h
  exact sl_own h1 h2 (fcells_len hl xs)
theorem NewF.shape (h : NewF f n H0 H1 v xs) : ∃ p m, v = .slice (some ⟨p, 0, none⟩) m n := by
  obtain ⟨p, _, _, h3, _⟩ := h
  exact ⟨p, _, h3⟩
theorem NewF.keep (h : NewF f n H0 H1 v xs) (kp : Keep H1 H2) : NewF f n H0 H2 v xs := by
  obtain ⟨p, h1, h2, h3, h4⟩ := h
  exact ⟨p, h1, Nat.lt_of_lt_of_le h2 kp.nxt, h3, by rw [kp.get p h2]; exact h4⟩
theorem NewF.set_lt {q : Nat} {cs : List Value} (h : NewF f n H0 H1 v xs) (hq : q < H0.nxt) : NewF f n H0 (H1.set q cs) v xs := by
  obtain ⟨p, h1, h2, h3, h4⟩ := h
  exact ⟨p, h1, by rw [Zbh]; exact h2, h3, by rw [Zbi, if_neg (by omega)]; exact h4⟩
theorem NewF.new (hk : Keep H0 H1) : NewF f n H0 (H1.push []) (.slice (some ⟨H1.nxt, 0, none⟩) 0 n) [] := ⟨H1.nxt, hk.nxt, by rw [Zbg]; omega, rfl, by rw [push_get', if_pos rfl]; rfl⟩
theorem NewF.own {hl : ∀ a, (f a).length = n} {m : α → Nat → α × Nat} (h : NewF f n H0 H1 v xs) : ∃ F, (rSlc (flatRep f n hl m)).own H1 [v] xs F ∧ Fresh H0 H1 F := by
  obtain ⟨p, h1, h2, rfl, h4⟩ := h
  exact ⟨[p], flat_own0 h2 h4, by simp, by intro i hi; simp at hi; omega⟩
/-- What an append leaves alone, and where its outcome lies. -/
def Apart (H1 H2 : Heap) (v u : Value) : Prop := (∀ j, j < H1.nxt → j ≠ blk v → H2.get j = H1.get j) ∧ (blk u = blk v ∨ H1.nxt ≤ blk u)
theorem NewF.app2 (hl : ∀ a, (f a).length = n) (hn : 0 < n) (h : NewF f n H0 H1 v xs) (hx : Sl H1 w n ys.length (fcells f ys)) (hb : (xs.length + ys.length) * bytes ≤ 140737488355328) :
    ∃ u H2, vapp H1 n bytes v w = some (u, H2) ∧ NewF f n H0 H2 u (xs ++ ys) ∧ (∀ H, H.nxt ≤ H0.nxt → Keep H H1 → Keep H H2) ∧ H1.nxt ≤ H2.nxt ∧ Apart H1 H2 v u := by
  obtain ⟨p, h1, h2, rfl, h4⟩ := h
  rcases vapp_own hn h4 (fcells_len hl xs) hx hb with ⟨h5, e⟩ | ⟨h5, e⟩
  · obtain rfl : ys = [] := List.eq_nil_of_length_eq_zero h5
    exact ⟨_, _, e, ⟨p, h1, h2, by simp, by simpa using h4⟩, fun _ _ hk => hk, Nat.le_refl _, fun _ _ _ => rfl, .inl rfl⟩
  · refine ⟨_, _, e, ⟨H1.nxt, by omega, by rw [Zbj]; omega, by simp, by rw [Zbk, if_pos rfl, fcells_app]⟩, fun H hH hk => hk.moved' (by omega), by rw [Zbj]; omega, fun j hj hne => ?_, .inr (Nat.le_refl _)⟩
    have hne' : j ≠ p := hne
    rw [Zbk, if_neg (by omega), if_neg hne']
theorem NewF.app (hl : ∀ a, (f a).length = n) (hn : 0 < n) (h : NewF f n H0 H1 v xs) (hx : Sl H1 w n ys.length (fcells f ys)) (hb : (xs.length + ys.length) * bytes ≤ 140737488355328) :
    ∃ u H2, vapp H1 n bytes v w = some (u, H2) ∧ NewF f n H0 H2 u (xs ++ ys) ∧ (∀ H, H.nxt ≤ H0.nxt → Keep H H1 → Keep H H2) ∧ H1.nxt ≤ H2.nxt := by
  obtain ⟨u, H2, h1, h2, h3, h4, _⟩ := NewF.app2 hl hn h hx hb
  exact ⟨u, H2, h1, h2, h3, h4⟩
theorem NewF.one (hl : ∀ a, (f a).length = n) (hn : 0 < n) (h : NewF f n H0 H1 v xs) (hb : (xs.length + 1) * bytes ≤ 140737488355328) :
    ∃ u H2, vapp (H1.push (f y)) n bytes v (.slice (some ⟨H1.nxt, 0, none⟩) 1 n) = some (u, H2) ∧ NewF f n H0 H2 u (xs ++ [y]) ∧ (∀ H, H.nxt ≤ H0.nxt → Keep H H1 → Keep H H2) ∧ H1.nxt ≤ H2.nxt := by
  have h' := h.keep (Keep.push H1 (f y))
  have hx : Sl (H1.push (f y)) (.slice (some ⟨H1.nxt, 0, none⟩) 1 n) n [y].length (fcells f [y]) := sl_own (by rw [Zbg]; omega) (by rw [push_get', if_pos rfl]; simp [fcells]) (by simp [fcells, hl])
  obtain ⟨u, H2, e, h2, h3, h4⟩ := NewF.app hl hn h' hx hb
  exact ⟨u, H2, e, h2, fun H hH hk => h3 H hH hk.push', by rw [Zbg] at h4; omega⟩
theorem NewF.lit (hk : Keep H0 H1) : NewF f n H0 (H1.push (fcells f xs)) (.slice (some ⟨H1.nxt, 0, none⟩) xs.length n) xs := ⟨H1.nxt, hk.nxt, by rw [Zbg]; omega, rfl, by rw [push_get', if_pos rfl]⟩
theorem NewF.many (hl : ∀ a, (f a).length = n) (hn : 0 < n) (h : NewF f n H0 H1 v xs) (hb : (xs.length + ys.length) * bytes ≤ 140737488355328) :
    ∃ u H2, vapp (H1.push (fcells f ys)) n bytes v (.slice (some ⟨H1.nxt, 0, none⟩) ys.length n) = some (u, H2) ∧ NewF f n H0 H2 u (xs ++ ys) ∧ (∀ H, H.nxt ≤ H0.nxt → Keep H H1 → Keep H H2) ∧ H1.nxt ≤ H2.nxt := by
  have h' := h.keep (Keep.push H1 (fcells f ys))
  have hx : Sl (H1.push (fcells f ys)) (.slice (some ⟨H1.nxt, 0, none⟩) ys.length n) n ys.length (fcells f ys) := sl_own (by rw [Zbg]; omega) (by rw [push_get', if_pos rfl]) (fcells_len hl ys)
  obtain ⟨u, H2, e, h2, h3, h4⟩ := NewF.app hl hn h' hx hb
  exact ⟨u, H2, e, h2, fun H hH hk => h3 H hH hk.push', by rw [Zbg] at h4; omega⟩
theorem NewF.many2 (hl : ∀ a, (f a).length = n) (hn : 0 < n) (h : NewF f n H0 H1 v xs) (hb : (xs.length + ys.length) * bytes ≤ 140737488355328) :
    ∃ u H2, vapp (H1.push (fcells f ys)) n bytes v (.slice (some ⟨H1.nxt, 0, none⟩) ys.length n) = some (u, H2) ∧ NewF f n H0 H2 u (xs ++ ys) ∧ (∀ H, H.nxt ≤ H0.nxt → Keep H H1 → Keep H H2) ∧ H1.nxt ≤ H2.nxt ∧ Apart H1 H2 v u := by
  have h' := h.keep (Keep.push H1 (fcells f ys))
  have hx : Sl (H1.push (fcells f ys)) (.slice (some ⟨H1.nxt, 0, none⟩) ys.length n) n ys.length (fcells f ys) := sl_own (by rw [Zbg]; omega) (by rw [push_get', if_pos rfl]) (fcells_len hl ys)
  obtain ⟨u, H2, e, h2, h3, h4, h5, h6⟩ := NewF.app2 hl hn h' hx hb
  rw [Zbg] at h4 h5 h6
  refine ⟨u, H2, e, h2, fun H hH hk => h3 H hH hk.push', by omega, fun j hj hne => ?_, ?_⟩
  · rw [h5 j (by omega) hne, push_get', if_neg (by omega)]
  · rcases h6 with h6 | h6
    · exact .inl h6
    · exact .inr (by omega)
theorem NewF.one2 (hl : ∀ a, (f a).length = n) (hn : 0 < n) (h : NewF f n H0 H1 v xs) (hb : (xs.length + 1) * bytes ≤ 140737488355328) :
    ∃ u H2, vapp (H1.push (f y)) n bytes v (.slice (some ⟨H1.nxt, 0, none⟩) 1 n) = some (u, H2) ∧ NewF f n H0 H2 u (xs ++ [y]) ∧ (∀ H, H.nxt ≤ H0.nxt → Keep H H1 → Keep H H2) ∧ H1.nxt ≤ H2.nxt ∧ Apart H1 H2 v u := by
  have := NewF.many2 (ys := [y]) (bytes := bytes) hl hn h hb
  rwa [fcells_cons, show fcells f ([] : List α) = [] from rfl, List.append_nil] at this
theorem Sl.agree {H H' : Heap} {v : Value} {sz n : Nat} {cs : List Value} (h : Sl H v sz n cs) (hn : H.nxt ≤ H'.nxt) (hg : H'.get (blk v) = H.get (blk v)) : Sl H' v sz n cs := by
  refine ⟨h.1, ?_⟩
  rcases h.2 with h | ⟨i, o, rfl, hi, hc⟩
  · exact .inl h
  · exact .inr ⟨i, o, rfl, Nat.lt_of_lt_of_le hi hn, fun j c hj => by
      obtain ⟨ob, h1, h2⟩ := hc j c hj
      exact ⟨ob, by rw [← h1]; exact hg, h2⟩⟩
/-- A whole element, stored. -/
theorem stO_elem {p i : Nat} {x : Value} (hl : ∀ a, (f a).length = n) (hx : noTup x = true) (hv : vcells x = f y) (hi : i < xs.length) : stO H1 n p (i * n) x (some (.own (fcells f xs))) = some (undef, H1.set p (fcells f (xs.set i y))) := by
  have hlen := fcells_len hl xs
  have h1 : (i + 1) * n ≤ xs.length * n := Nat.mul_le_mul_right _ hi
  rw [Nat.add_mul, Nat.one_mul] at h1
  rw [stO_own, hv, if_pos ⟨hx, hl y, by omega⟩]
  congr 3
  have e1 : xs = xs.take i ++ xs[i] :: xs.drop (i + 1) := by rw [← List.drop_eq_getElem_cons hi, List.take_append_drop]
  have e2 : fcells f xs = fcells f (xs.take i) ++ (f xs[i] ++ fcells f (xs.drop (i + 1))) := by
    conv => lhs; rw [e1]
    rw [fcells_app, fcells_cons]
  have e3 : xs.set i y = xs.take i ++ y :: xs.drop (i + 1) := by
    rw [List.set_eq_take_append_cons_drop, if_pos hi]
  have e4 : (fcells f (xs.take i)).length = i * n := by rw [fcells_len hl, List.length_take, Nat.min_eq_left (by omega)]
  rw [e3, fcells_app, fcells_cons]
  unfold wr
  rw [e2, hl y, List.take_append_of_le_length (by omega), List.take_of_length_le (by omega), List.append_assoc]
  congr 2
  rw [List.drop_append, List.drop_of_length_le (by omega), List.nil_append, e4, Nat.add_sub_cancel_left, List.drop_append, List.drop_of_length_le (by rw [hl]; omega), List.nil_append, hl, Nat.sub_self, List.drop_zero]
/-- A store of a whole element into a new slice. -/
theorem NewF.st {i : Nat} {x : Value} (hl : ∀ a, (f a).length = n) (h : NewF f n H0 H1 v xs) (hx : noTup x = true) (hv : vcells x = f y) (hi : i < xs.length) :
    ∃ H2, vst H1 n x (adr v i n 0) = some (undef, H2) ∧ NewF f n H0 H2 v (xs.set i y) ∧ (∀ H, H.nxt ≤ H0.nxt → Keep H H1 → Keep H H2) ∧ H2.nxt = H1.nxt ∧ ∀ j, j < H0.nxt → H2.get j = H1.get j := by
  obtain ⟨p, h1, h2, rfl, h4⟩ := h
  refine ⟨H1.set p (fcells f (xs.set i y)), ?_, ⟨p, h1, by rw [Zbh]; exact h2, by rw [List.length_set], by rw [Zbi, if_pos rfl]⟩, fun H hH hk => hk.set' (by omega), by rw [Zbh], fun j hj => by rw [Zbi, if_neg (by omega)]⟩
  simp only [adr, Zcq, h4]
  rw [show 0 + i * n + 0 = i * n by omega]
  exact stO_elem hl hx hv hi
end
end Go.Proofs.Ytkadelndmaegdaa.AX
