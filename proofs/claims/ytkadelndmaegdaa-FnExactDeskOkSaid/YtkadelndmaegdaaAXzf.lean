/- Own slices of whatever: one element taken out and put back, appends, new ones. No condition beyond each law's own; nothing of the program. -/
import Derived.Test.YtkadelndmaegdaaAXze
namespace Go.Proofs.Ytkadelndmaegdaa.AX
open Go
set_option maxRecDepth 10000
set_option linter.unusedSimpArgs false
set_option linter.unusedVariables false
section
variable {α : Type} {r : Rep α} {H H' : Heap} {v : Value} {xs : List α} {F : List Nat} {i sz : Nat}
theorem ownRows_split : ∀ {rows : List (List Value)} {xs : List α} {Fs : List (List Nat)} {i : Nat} (hi : i < xs.length), ownRows r H rows xs Fs → ∃ R1 row R2 F1 G F2, rows = R1 ++ row :: R2 ∧ Fs = F1 ++ G :: F2 ∧ R1.length = i ∧ ownRows r H R1 (xs.take i) F1 ∧ r.own H row xs[i] G ∧ ownRows r H R2 (xs.drop (i + 1)) F2
  | c :: rows, x :: xs, G :: Fs, 0, hi, h => ⟨[], c, rows, [], G, Fs, rfl, rfl, rfl, trivial, h.1, h.2⟩
  | c :: rows, x :: xs, G :: Fs, i + 1, hi, h => by
    obtain ⟨R1, row, R2, F1, G', F2, rfl, rfl, h3, h4, h5, h6⟩ := ownRows_split (i := i) (by simpa using hi) h.2
    exact ⟨c :: R1, row, R2, G :: F1, G', F2, rfl, rfl, by simp [h3], ⟨h.1, h4⟩, h5, h6⟩
  | [], x :: xs, _, _, _, h => by cases h
  | _ :: _, x :: xs, [], _, _, h => by cases h
theorem ownRows_app : ∀ {rows rows' : List (List Value)} {xs xs' : List α} {Fs Fs' : List (List Nat)}, ownRows r H rows xs Fs → ownRows r H rows' xs' Fs' → ownRows r H (rows ++ rows') (xs ++ xs') (Fs ++ Fs')
  | [], _, [], _, [], _, _, h' => h'
  | [], _, [], _, _ :: _, _, h, _ => h.elim
  | [], _, _ :: _, _, _, _, h, _ => h.elim
  | _ :: _, _, [], _, _, _, h, _ => h.elim
  | _ :: _, _, _ :: _, _, [], _, h, _ => h.elim
  | _ :: _, _, _ :: _, _, _ :: _, _, h, h' => ⟨h.1, ownRows_app h.2 h'⟩
theorem wr_at {A B C D : List Value} {o : Nat} (ho : A.length = o) (hl : B.length = D.length) : wr (A ++ (B ++ C)) o D = A ++ (D ++ C) := by
  unfold wr
  rw [List.take_append_of_le_length (by omega), List.take_of_length_le (by omega), List.drop_append, List.drop_of_length_le (by omega), List.nil_append, ho, Nat.add_sub_cancel_left, ← hl, List.drop_append, List.drop_of_length_le (Nat.le_refl _), List.nil_append, Nat.sub_self, List.drop_zero, List.append_assoc]
/-- An element of what is one's own: read, and put back turned. -/
theorem own_focus (hz : r.sz = sz) (h0 : 0 < sz) (h : (rSlc r).own H [v] xs F) (hnd : F.Nodup) (hi : i < xs.length) : ∃ row G, r.own H row xs[i] G ∧ G.Nodup ∧ (∀ a ∈ G, a ∈ F) ∧ row.length = sz ∧ vldN H sz (adr v i sz 0) = some (.agg row.toArray, H) ∧ (∀ o c, row[o]? = some c → vld1 H (adr v i sz o) = some (c, H)) ∧ blk v ∈ F ∧ blk v ∉ G ∧
    ∀ H' x row' y G', Chg G H H' → r.own H' row' y G' → (∀ a ∈ G', a ∉ F ∨ a ∈ G) → G'.Nodup → noTup x = true → vcells x = row' →
      ∃ H'' F', vst H' sz x (adr v i sz 0) = some (undef, H'') ∧ (rSlc r).own H'' [v] (xs.set i y) F' ∧ H''.nxt = H'.nxt ∧ (∀ a, a ≠ blk v → H''.get a = H'.get a) ∧ (∀ a ∈ F', a ∈ F ∧ a ∉ G ∨ a ∈ G') ∧ (∀ a ∈ G', a ∈ F') ∧ F'.Nodup ∧ ∀ j k c, j ≠ i → k < sz → vld1 H (adr v j sz k) = some (c, H) → vld1 H'' (adr v j sz k) = some (c, H'') := by
  have hel := slc_el hz h0 ((rSlc r).ownrd h) hi
  rcases h with ⟨_, rfl, _⟩ | ⟨p, o, pre, rows, post, Fs, hv, hp, hg, ho, hr, rfl⟩
  · simp at hi
  have hv : v = .slice (some ⟨p, o, none⟩) xs.length r.sz := by simpa using hv
  obtain ⟨R1, row, R2, F1, G, F2, rfl, rfl, hl1, o1, ox, o2⟩ := ownRows_split hi hr
  have hfl : (F1 ++ G :: F2).flatten = F1.flatten ++ (G ++ F2.flatten) := by simp
  rw [hfl] at hnd ⊢
  obtain ⟨hp0, hnd2⟩ := List.nodup_cons.1 hnd
  obtain ⟨nd1, nd2, dj1⟩ := List.nodup_append.1 hnd2
  obtain ⟨ndG, nd3, dj2⟩ := List.nodup_append.1 nd2
  have hrl : row.length = sz := by rw [← hz]; exact r.len (r.ownrd ox)
  have hpG : p ∉ G := fun h => hp0 (by simp [h])
  have hbl : blk v = p := by rw [hv]; rfl
  obtain ⟨row2, hrd2, hl2, e1, e2⟩ := hel
  have hfr : R1.flatten.length = i * sz := by rw [flatten_length o1.rd.sz, hl1, hz]
  have hsame : row2 = row := by
    have hmid : mid pre (R1 ++ row :: R2).flatten post = (pre ++ R1.flatten) ++ (row ++ (R2.flatten ++ post)) := by simp [mid]
    have e3 : vldN H sz (adr v i sz 0) = some (.agg row.toArray, H) := by
      rw [hv]
      simp only [adr, Zco, hg, hmid, Zcp]
      rw [if_pos (by simp only [List.length_append]; rw [hrl, hfr, ho]; omega)]
      congr 3
      rw [List.drop_append, List.drop_of_length_le (by rw [List.length_append, hfr, ho]; omega), List.nil_append, List.length_append, hfr, ho, Nat.add_zero, Nat.sub_self, List.drop_zero, List.take_append_of_le_length (by omega), List.take_of_length_le (by omega)]
    rw [e1] at e3
    simpa using e3
  subst hsame
  refine ⟨row2, G, ox, ndG, fun a ha => by simp [ha], hrl, e1, e2, by rw [hbl]; simp, by rw [hbl]; exact hpG, ?_⟩
  rintro H' x row' y G' c ho' hG' hnd' hx hvx
  have hrl' : row'.length = sz := by rw [← hz]; exact r.len (r.ownrd ho')
  have hpG' : p ∉ G' := fun h => by
    rcases hG' p h with h | h
    · exact h (by simp)
    · exact hpG h
  have hmid : mid pre (R1 ++ row2 :: R2).flatten post = (pre ++ R1.flatten) ++ (row2 ++ (R2.flatten ++ post)) := by simp [mid]
  have hmid' : mid pre (R1 ++ row' :: R2).flatten post = (pre ++ R1.flatten) ++ (row' ++ (R2.flatten ++ post)) := by simp [mid]
  have hg' : H'.get p = some (.own (mid pre (R1 ++ row2 :: R2).flatten post)) := by rw [c.get p hp hpG, hg]
  have keepF : ∀ {R : List (List Value)} {X : List α} {Fz : List (List Nat)}, ownRows r H R X Fz → (∀ a ∈ Fz.flatten, a ∉ G ∧ a ≠ p) → ownRows r (H'.set p (mid pre (R1 ++ row' :: R2).flatten post)) R X Fz := by
    intro R X Fz hO hd
    refine hO.keep (by rw [Zbh]; exact c.nxt) (fun a ha => ?_)
    rw [Zbi, if_neg (hd a ha).2]
    exact c.get a (hO.lt a ha) (hd a ha).1
  refine ⟨H'.set p (mid pre (R1 ++ row' :: R2).flatten post), p :: (F1 ++ G' :: F2).flatten, ?_, .inr ⟨p, o, pre, R1 ++ row' :: R2, post, F1 ++ G' :: F2, ?_, ?_, by rw [Zbi, if_pos rfl], ho, ?_, rfl⟩, Zbh .., fun a ha => by rw [Zbi, if_neg (by rw [← hbl]; exact ha)], ?_, ?_, ?_, ?_⟩
  · rw [hv]
    simp only [adr, Zcq, hg', stO_own]
    rw [if_pos ⟨hx, by rw [hvx, hrl'], by simp only [hmid, List.length_append]; rw [hrl, hfr, ho]; omega⟩, hvx, hmid, hmid', wr_at (by rw [List.length_append, hfr, ho]; omega) (by omega)]
  · rw [List.length_set, hv]
  · rw [Zbh]; exact Nat.lt_of_lt_of_le hp c.nxt
  · have e3 : xs.set i y = xs.take i ++ y :: xs.drop (i + 1) := by rw [List.set_eq_take_append_cons_drop, if_pos hi]
    rw [e3]
    refine ownRows_app (keepF o1 fun a ha => ⟨fun h => dj1 a ha a (by simp [h]) rfl, fun h => hp0 (by rw [← h]; simp only [List.mem_append]; exact .inl ha)⟩) ⟨r.ownk ho' (by rw [Zbh]; exact Nat.le_refl _) (fun a ha => by rw [Zbi, if_neg (fun h => hpG' (by rw [← h]; exact ha))]), keepF o2 fun a ha => ⟨fun h => dj2 a h a ha rfl, fun h => hp0 (by rw [← h]; simp only [List.mem_append]; exact .inr (.inr ha))⟩⟩
  · intro a ha
    simp only [List.flatten_append, List.flatten_cons, List.mem_cons, List.mem_append] at ha ⊢
    rcases ha with rfl | ha | ha | ha
    · exact .inl ⟨.inl rfl, hpG⟩
    · exact .inl ⟨.inr (.inl ha), fun h => dj1 a ha a (by simp [h]) rfl⟩
    · exact .inr ha
    · exact .inl ⟨.inr (.inr (.inr ha)), fun h => dj2 a h a ha rfl⟩
  · intro a ha
    simp [ha]
  · have hfl' : (F1 ++ G' :: F2).flatten = F1.flatten ++ (G' ++ F2.flatten) := by simp
    rw [hfl']
    refine List.nodup_cons.2 ⟨fun h => ?_, List.nodup_append.2 ⟨nd1, List.nodup_append.2 ⟨hnd', nd3, fun a ha b hb e => ?_⟩, fun a ha b hb e => ?_⟩⟩
    · simp only [List.mem_append] at h
      rcases h with h | h | h
      · exact hp0 (by simp only [List.mem_append]; exact .inl h)
      · exact hpG' h
      · exact hp0 (by simp only [List.mem_append]; exact .inr (.inr h))
    · subst e
      rcases hG' a ha with h | h
      · exact h (by simp only [List.mem_cons, List.mem_append]; exact .inr (.inr (.inr hb)))
      · exact dj2 a h a hb rfl
    · subst e
      rcases List.mem_append.1 hb with hb | hb
      · rcases hG' a hb with h | h
        · exact h (by simp only [List.mem_cons, List.mem_append]; exact .inr (.inl ha))
        · exact dj1 a ha a (by simp [h]) rfl
      · exact dj1 a ha a (by simp [hb]) rfl
  · intro j k c hji hk hc
    rw [hv] at hc ⊢
    simp only [adr, Zcl, hg, Zcm] at hc
    simp only [adr, Zcl, Zbi, if_true, Zcm]
    have hA : (pre ++ R1.flatten).length = o + i * sz := by rw [List.length_append, hfr, ho]
    have e : (mid pre (R1 ++ row' :: R2).flatten post)[o + j * sz + k]? = (mid pre (R1 ++ row2 :: R2).flatten post)[o + j * sz + k]? := by
      rw [hmid, hmid']
      generalize pre ++ R1.flatten = A at hA ⊢
      generalize R2.flatten ++ post = C
      rcases Nat.lt_or_gt_of_ne hji with h | h
      · have h2 : (j + 1) * sz ≤ i * sz := Nat.mul_le_mul_right _ h
        rw [Nat.add_mul, Nat.one_mul] at h2
        rw [List.getElem?_append_left (by omega), List.getElem?_append_left (by omega)]
      · have h2 : (i + 1) * sz ≤ j * sz := Nat.mul_le_mul_right _ h
        rw [Nat.add_mul, Nat.one_mul] at h2
        rw [List.getElem?_append_right (by omega), List.getElem?_append_right (by omega), List.getElem?_append_right (by omega), List.getElem?_append_right (by omega), hrl, hrl']
    rw [e]
    cases hx : (mid pre (R1 ++ row2 :: R2).flatten post)[o + j * sz + k]? with
    | none => rw [hx] at hc; cases hc
    | some d =>
      rw [hx] at hc
      simp only [Zcn, Option.some.injEq, Prod.mk.injEq] at hc
      rw [Zcn, hc.1]
/-- A new own slice out of rows. -/
theorem own_push {rows : List (List Value)} {Fs : List (List Nat)} (hr : ownRows r H rows xs Fs) : (rSlc r).own (H.push rows.flatten) [.slice (some ⟨H.nxt, 0, none⟩) xs.length r.sz] xs (H.nxt :: Fs.flatten) :=
  .inr ⟨H.nxt, 0, [], rows, [], Fs, rfl, by rw [Zbg]; omega, by rw [push_get', if_pos rfl]; simp [mid], rfl, hr.keep (by rw [Zbg]; omega) (fun a ha => by have := hr.lt a ha; rw [push_get', if_neg (by omega)]), rfl⟩
/-- One more element behind those that are there. -/
theorem own_app {bytes : Nat} (hz : r.sz = sz) (h0 : 0 < sz) (h : (rSlc r).own H [v] xs F) {row : List Value} {y : α} {G : List Nat} (hy : r.own H row y G) (hF : F.Nodup) (hG : G.Nodup) (hd : ∀ a ∈ G, a ∉ F) (hb : (xs.length + 1) * bytes ≤ 140737488355328) :
    ∃ u H' F', vapp (H.push row) sz bytes v (.slice (some ⟨H.nxt, 0, none⟩) 1 sz) = some (u, H') ∧ (rSlc r).own H' [u] (xs ++ [y]) F' ∧ Chg F H H' ∧ (∀ a ∈ F', a ∈ F ∨ a ∈ G ∨ H.nxt ≤ a ∧ a < H'.nxt) ∧ F'.Nodup ∧ ∀ a ∈ G, a ∈ F' := by
  have hrl : row.length = sz := by rw [← hz]; exact r.len (r.ownrd hy)
  have hx : Sl (H.push row) (.slice (some ⟨H.nxt, 0, none⟩) 1 sz) sz 1 row := sl_own (by rw [Zbg]; omega) (by rw [push_get', if_pos rfl]) (by rw [hrl, Nat.one_mul])
  obtain ⟨ob, hob, hfit, hseg⟩ := hx.seg (by omega)
  have hgr : (H.push row).get H.nxt = some (.own row) := by rw [push_get', if_pos rfl]
  rcases h with ⟨hv, rfl, rfl⟩ | ⟨p, o, pre, rows, post, Fs, hv, hp, hg, ho, hr, rfl⟩
  · obtain rfl : v = .slice none 0 0 := by simpa using hv
    have e : vapp (H.push row) sz bytes (.slice none 0 0) (.slice (some ⟨H.nxt, 0, none⟩) 1 sz) = some (.slice (some ⟨H.nxt + 1, 0, none⟩) 1 sz, (H.push row).push row) := by
      have e : vapp (H.push row) sz bytes (.slice none 0 0) (.slice (some ⟨H.nxt, 0, none⟩) 1 sz) = (match (H.push row).get H.nxt with
          | some ob => if sz = sz ∧ 0 + 1 * sz ≤ ob.cells.length then
              (if 1 * bytes ≤ 140737488355328 then some (.slice (some ⟨(H.push row).nxt, 0, none⟩) 1 sz, (H.push row).push ((ob.cells.drop 0).take (1 * sz))) else none)
            else none
          | none => none) := rfl
      rw [e, hgr]
      simp only [Obj.cells, true_and, List.drop_zero, Nat.one_mul, Nat.zero_add]
      rw [if_pos (by omega), if_pos (by simpa using hb), List.take_of_length_le (by omega)]
      rfl
    refine ⟨_, _, (H.nxt + 1) :: G, e, ?_, ⟨by simp only [Zbg]; omega, fun a ha _ => by rw [push_get', if_neg (by rw [Zbg]; omega), push_get', if_neg (by omega)]⟩, ?_, ?_, fun a ha => by simp [ha]⟩
    · have := own_push (r := r) (H := H.push row) (xs := [y]) (rows := [row]) (Fs := [G]) ⟨r.ownKeep hy (Keep.push _ _), trivial⟩
      simp only [List.flatten_cons, List.flatten_nil, List.append_nil, List.length_cons, List.length_nil, Zbg, hz] at this
      exact this
    · intro a ha
      simp only [List.mem_cons] at ha
      rcases ha with rfl | ha
      · exact .inr (.inr (by simp only [Zbg]; omega))
      · exact .inr (.inl ha)
    · exact List.nodup_cons.2 ⟨fun h => by have := r.ownlt hy _ h; omega, hG⟩
  · obtain rfl : v = .slice (some ⟨p, o, none⟩) xs.length r.sz := by simpa using hv
    subst hz
    have hgp : (H.push row).get p = some (.own (mid pre rows.flatten post)) := by rw [push_get', if_neg (by omega), hg]
    have hfr : rows.flatten.length = xs.length * r.sz := by rw [flatten_length hr.rd.sz, hr.len.1]
    have e : vapp (H.push row) r.sz bytes (.slice (some ⟨p, o, none⟩) xs.length r.sz) (.slice (some ⟨H.nxt, 0, none⟩) 1 r.sz) = some (.slice (some ⟨H.nxt + 1, 0, none⟩) (xs.length + 1) r.sz, (H.push row).moved p (rows.flatten ++ row)) := by
      have e : vapp (H.push row) r.sz bytes (.slice (some ⟨p, o, none⟩) xs.length r.sz) (.slice (some ⟨H.nxt, 0, none⟩) 1 r.sz) = (match (H.push row).get H.nxt with
          | some ob => if r.sz = r.sz ∧ 0 + 1 * r.sz ≤ ob.cells.length then
              (match (H.push row).get p with
                | some (.own cs) => if r.sz = r.sz ∧ o + xs.length * r.sz ≤ cs.length ∧ (xs.length + 1) * bytes ≤ 140737488355328 then some (.slice (some ⟨(H.push row).nxt, 0, none⟩) (xs.length + 1) r.sz, (H.push row).moved p ((cs.drop o).take (xs.length * r.sz) ++ (ob.cells.drop 0).take (1 * r.sz))) else none
                | _ => none)
            else none
          | none => none) := rfl
      rw [e, hgr, hgp]
      simp only [Obj.cells, true_and, List.drop_zero, Nat.one_mul, Nat.zero_add]
      rw [if_pos (by omega), if_pos ⟨by rw [mid_len, hfr, ho]; omega, hb⟩, List.take_of_length_le (l := row) (by omega)]
      congr 3
      have : (mid pre rows.flatten post).drop o = rows.flatten ++ post := by rw [mid, List.append_assoc, List.drop_append, List.drop_of_length_le (by omega), List.nil_append, ho, Nat.sub_self, List.drop_zero]
      rw [this, List.take_append_of_le_length (by omega), List.take_of_length_le (by omega)]
    obtain ⟨hp0, ndF⟩ := List.nodup_cons.1 hF
    have hlt := hr.lt
    have hltG := r.ownlt hy
    have hpG : p ∉ G := fun h => hd p h (by simp)
    refine ⟨_, _, (H.nxt + 1) :: (Fs ++ [G]).flatten, e, .inr ⟨H.nxt + 1, 0, [], rows ++ [row], [], Fs ++ [G], by rw [List.length_append]; rfl, by simp only [Zbj, Zbg]; omega, by rw [Zbk, Zbg, if_pos rfl]; simp [mid], rfl, ?_, rfl⟩, ⟨by simp only [Zbj, Zbg]; omega, fun a ha hF => ?_⟩, ?_, ?_, ?_⟩
    · refine ownRows_snoc (hr.keep (by simp only [Zbj, Zbg]; omega) fun a ha => ?_) (r.ownk hy (by simp only [Zbj, Zbg]; omega) fun a ha => ?_)
      · have := hlt a ha
        rw [Zbk, Zbg, if_neg (by omega), if_neg (fun h => hp0 (by rw [← h]; exact ha)), push_get', if_neg (by omega)]
      · have := hltG a ha
        rw [Zbk, Zbg, if_neg (by omega), if_neg (fun h => hpG (by rw [← h]; exact ha)), push_get', if_neg (by omega)]
    · rw [Zbk, Zbg, if_neg (by omega), if_neg (fun h => hF (by rw [h]; simp)), push_get', if_neg (by omega)]
    · intro a ha
      simp only [List.mem_cons, List.flatten_append, List.flatten_cons, List.flatten_nil, List.append_nil, List.mem_append] at ha ⊢
      rcases ha with rfl | ha | ha
      · exact .inr (.inr (by simp only [Zbj, Zbg]; omega))
      · exact .inl (.inr ha)
      · exact .inr (.inl ha)
    · simp only [List.flatten_append, List.flatten_cons, List.flatten_nil, List.append_nil]
      refine List.nodup_cons.2 ⟨fun h => ?_, List.nodup_append.2 ⟨ndF, hG, fun a ha b hb e => ?_⟩⟩
      · rcases List.mem_append.1 h with h | h
        · have := hlt _ h; omega
        · have := hltG _ h; omega
      · subst e
        exact hd a hb (by simp [ha])
    · intro a ha
      simp only [List.mem_cons, List.flatten_append, List.flatten_cons, List.flatten_nil, List.append_nil, List.mem_append]
      exact .inr (.inr ha)
theorem own_new : (rSlc r).own (H.push []) [.slice (some ⟨H.nxt, 0, none⟩) 0 r.sz] [] [H.nxt] := own_push (r := r) (H := H) (rows := []) (xs := []) (Fs := []) trivial
theorem own_new' (hz : r.sz = sz) : (rSlc r).own (H.push []) [.slice (some ⟨H.nxt, 0, none⟩) 0 sz] [] [H.nxt] := by rw [← hz]; exact own_new
/-- Made of zeros that own nothing. -/
theorem own_mks {z : List Value} {x0 : α} (hz : r.own H z x0 []) (n : Nat) : (rSlc r).own (H.push (List.replicate n z).flatten) [.slice (some ⟨H.nxt, 0, none⟩) n r.sz] (List.replicate n x0) [H.nxt] := by
  have : ∀ n, ownRows r H (List.replicate n z) (List.replicate n x0) (List.replicate n []) := by
    intro n
    induction n with
    | zero => trivial
    | succ n ih => exact ⟨hz, ih⟩
  have h := own_push (this n)
  rw [List.length_replicate] at h
  have e : (List.replicate n ([] : List Nat)).flatten = [] := by
    induction n with
    | zero => rfl
    | succ n ih => simp
  rwa [e] at h
end
/-- Several numbers behind those that are there. -/
theorem own_appN {α : Type} {f : α → Value} {m : Nat → α} {hf : ∀ a, oneCell (f a) = true} {H : Heap} {v w : Value} {xs ys : List α} {F : List Nat} {bytes : Nat} (h : (rSlc (leafRep f m hf)).own H [v] xs F) (hw : Sl H w 1 ys.length (ys.map f)) (hb : (xs.length + ys.length) * bytes ≤ 140737488355328) :
    ∃ u H' F', vapp H 1 bytes v w = some (u, H') ∧ (rSlc (leafRep f m hf)).own H' [u] (xs ++ ys) F' ∧ Chg F H H' ∧ (∀ a ∈ F', a ∈ F ∨ H.nxt ≤ a ∧ a < H'.nxt) ∧ (F.Nodup → F'.Nodup) := by
  have hsame : ∀ {u : Value}, ys = [] → (rSlc (leafRep f m hf)).own H [u] (xs ++ ys) F → u = v → vapp H 1 bytes v w = some (v, H) → ∃ u H' F', vapp H 1 bytes v w = some (u, H') ∧ (rSlc (leafRep f m hf)).own H' [u] (xs ++ ys) F' ∧ Chg F H H' ∧ (∀ a ∈ F', a ∈ F ∨ H.nxt ≤ a ∧ a < H'.nxt) ∧ (F.Nodup → F'.Nodup) := by
    rintro u hy ho rfl e
    exact ⟨u, H, F, e, ho, Chg.refl _ _, fun a ha => .inl ha, fun h => h⟩
  have hvv : vapp H 1 bytes v (.slice none 0 0) = some (v, H) ∧ ∀ a b, vapp H 1 bytes v (.slice (some ⟨a, b, none⟩) 0 1) = some (v, H) := by
    rcases h with ⟨hv, _, _⟩ | ⟨p, o, pre, rows, post, Fs, hv, _⟩
    · obtain rfl : v = .slice none 0 0 := by simpa using hv
      exact ⟨rfl, fun _ _ => rfl⟩
    · obtain rfl := List.singleton_inj.1 hv
      exact ⟨rfl, fun _ _ => rfl⟩
  rcases Nat.eq_zero_or_pos ys.length with hk | hk
  · have hy := List.eq_nil_of_length_eq_zero hk
    refine hsame hy (by rw [hy, List.append_nil]; exact h) rfl ?_
    rcases hw.2 with ⟨rfl, _⟩ | ⟨j, o, rfl, _⟩
    · exact hvv.1
    · rw [hk]; exact hvv.2 _ _
  · obtain ⟨j, o', rfl, hj, _⟩ := hw.some_ hk
    obtain ⟨ob, hob, hfit, hseg⟩ := hw.seg (by omega)
    have hne : ∀ n, ys.length ≠ 0 := fun _ => by omega
    rcases leaf_own h with ⟨hv, rfl, rfl⟩ | ⟨p, pre, post, hv, hp, hg, rfl⟩
    · obtain rfl : v = .slice none 0 0 := by simpa using hv
      have e : vapp H 1 bytes (.slice none 0 0) (.slice (some ⟨j, o', none⟩) ys.length 1) = (if ys.length = 0 then some (.slice none 0 0, H) else match H.get j with
          | some ob => if 1 = 1 ∧ o' + ys.length * 1 ≤ ob.cells.length then
              (if ys.length * bytes ≤ 140737488355328 then some (.slice (some ⟨H.nxt, 0, none⟩) ys.length 1, H.push ((ob.cells.drop o').take (ys.length * 1))) else none)
            else none
          | none => none) := by
        cases hh : ys.length with
        | zero => omega
        | succ n => rfl
      rw [if_neg (by omega), hob] at e
      simp only [true_and] at e
      rw [if_pos hfit, if_pos (by simpa using hb), hseg] at e
      exact ⟨_, _, [H.nxt], e, leaf_own0 (by rw [Zbg]; omega) (by rw [push_get', if_pos rfl]), (Keep.push _ _).chg, fun a ha => .inr (by simp at ha; subst ha; rw [Zbg]; omega), fun _ => by simp⟩
    · obtain rfl : v = .slice (some ⟨p, pre.length, none⟩) xs.length 1 := by simpa using hv
      have e : vapp H 1 bytes (.slice (some ⟨p, pre.length, none⟩) xs.length 1) (.slice (some ⟨j, o', none⟩) ys.length 1) = (if ys.length = 0 then some (.slice (some ⟨p, pre.length, none⟩) xs.length 1, H) else match H.get j with
          | some ob => if 1 = 1 ∧ o' + ys.length * 1 ≤ ob.cells.length then
              (match H.get p with
                | some (.own cs) => if 1 = 1 ∧ pre.length + xs.length * 1 ≤ cs.length ∧ (xs.length + ys.length) * bytes ≤ 140737488355328 then some (.slice (some ⟨H.nxt, 0, none⟩) (xs.length + ys.length) 1, H.moved p ((cs.drop pre.length).take (xs.length * 1) ++ (ob.cells.drop o').take (ys.length * 1))) else none
                | _ => none)
            else none
          | none => none) := by
        cases hh : ys.length with
        | zero => omega
        | succ n => rfl
      rw [if_neg (by omega), hob, hg] at e
      simp only [true_and] at e
      have hdr : (mid pre (xs.map f) post).drop pre.length = xs.map f ++ post := by rw [mid, List.append_assoc, List.drop_append, List.drop_of_length_le (Nat.le_refl _), List.nil_append, Nat.sub_self, List.drop_zero]
      rw [if_pos hfit, if_pos ⟨by rw [mid_len, List.length_map]; omega, hb⟩, hseg, hdr, List.take_append_of_le_length (by rw [List.length_map]; omega), List.take_of_length_le (by rw [List.length_map]; omega), ← List.map_append] at e
      refine ⟨_, _, [H.nxt], e, ?_, ⟨by rw [Zbj]; omega, fun a ha hF => ?_⟩, fun a ha => .inr (by simp at ha; subst ha; rw [Zbj]; omega), fun _ => by simp⟩
      · have := leaf_own0 (f := f) (m := m) (hf := hf) (H := H.moved p ((xs ++ ys).map f)) (xs := xs ++ ys) (p := H.nxt) (by rw [Zbj]; omega) (by rw [Zbk, if_pos rfl])
        rwa [List.length_append] at this
      · rw [Zbk, if_neg (by omega), if_neg (by simpa using hF)]
/-- The front of what is one's own, cut off behind. -/
theorem own_front {α : Type} {f : α → Value} {m : Nat → α} {hf : ∀ a, oneCell (f a) = true} {H : Heap} {v : Value} {xs : List α} {F : List Nat} {n : Nat} (h : (rSlc (leafRep f m hf)).own H [v] xs F) (hn : n ≤ xs.length) :
    ∃ u, (∀ H1 : Heap, vslc H1 1 none (some (.int .i64 (n : Int))) (some (.int .i64 (n : Int))) v = some (u, H1)) ∧ (rSlc (leafRep f m hf)).own H [u] (xs.take n) F := by
  rcases leaf_own h with ⟨hv, rfl, rfl⟩ | ⟨p, pre, post, hv, hp, hg, rfl⟩
  · obtain rfl : v = .slice none 0 0 := by simpa using hv
    obtain rfl : n = 0 := by simpa using hn
    exact ⟨.slice none 0 0, fun H1 => rfl, .inl ⟨rfl, by simp, rfl⟩⟩
  · obtain rfl := List.singleton_inj.1 hv
    refine ⟨.slice (some ⟨p, pre.length, none⟩) n 1, fun H1 => ?_, ?_⟩
    · simp only [vslc, if_true, bnds, Option.bind_some, bnd_nat hn, bnd_nat (Nat.le_refl n), Option.map_some, Nat.zero_mul, Nat.add_zero, Nat.sub_zero]
    · have e : mid pre (xs.map f) post = mid pre ((xs.take n).map f) ((xs.drop n).map f ++ post) := by
        simp only [mid, List.append_assoc]
        rw [← List.append_assoc ((xs.take n).map f), ← List.map_append, List.take_append_drop]
      have := leaf_own' (f := f) (m := m) (hf := hf) (xs := xs.take n) (pre := pre) (post := (xs.drop n).map f ++ post) hp (by rw [← e]; exact hg)
      rwa [List.length_take, Nat.min_eq_left hn] at this
end Go.Proofs.Ytkadelndmaegdaa.AX
